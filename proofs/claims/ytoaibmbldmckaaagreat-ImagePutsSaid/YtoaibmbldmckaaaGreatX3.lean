import Derived.ChangeArms
import Derived.ProofKit
import Derived.Test.YtoaibmbldmckaaaGreatX2
set_option linter.unusedSimpArgs false
set_option linter.unusedVariables false
set_option linter.unusedSectionVars false
set_option maxRecDepth 100000
section
namespace Go.Proofs.YtoaibmbldmckaaaGreat
open Go.AM Tryz
theorem fx:type_of% (A2 aT3 <| A2 bA5 <| A2 bA6 <| A2 bA7 <| A2 bA8 <| A2 bA9 <| A2 bAa <| A2 bAb <| A2 bAc <| A2 bAd <| A2 bAe <| A2 bAf <| A2 bAg <| A2 bAh <| A2 bAi <| A2 bAj <| A2 bAk <| A2 bAl <| A2 bAm <| A2 bAn <| A2 bAo <| A2 bAp <| A2 bAq <| A2 bAr <| A2 bF6 <| A2 bAs <| A2 bF7 <| A2 bF8 <| A2 bF9 <| A2 bFa <| A2 bFb <| A2 bFc <| A2 bFd <| A2 bFe <| A2 bFf <| A2 bFg <| A2 bFh <| A2 bFi <| A2 bAt <| A2 bFj <| A2 bFk <| A2 bFl <| A2 bFm <| A2 bFn <| A2 bFo <| A2 bAu <| A2 bAv <| A2 bFp <| A2 bFq <| A2 bFr <| A2 bFs <| A2 bFt <| A2 bFu <| A2 bFv <| A2 bFw <| A2 aNe <| A2 aNf <| A2 aNg <| A2 aNh <| A2 aNi <| A2 aNj <| A2 aNk <| A2 aNl <| A2 aNm <| A2 aNn <| A2 aNo <| A2 aNp <| A2 aNq <| A2 aNr <| A2 aNs <| A2 aNt <| A2 aNu <| A2 aNv <| A2 aNw <| A2 aNx <| A2 aNy <| A2 aNz <| A2 aO0 <| A2 aO1 <| A2 aO2 <| A2 aO3 <| A2 aO4 <| A2 aO5 <| A2 aO6 <| A2 aO7 <| A2 aO8 <| A2 aO9 <| A2 aOa <| A2 aOb <| A2 aOc <| A2 aOd <| A2 aT4 <| A2 aT5 <| A2 aT6 <| A2 aT7 <| A2 aT8 <| A2 aT9 <| A2 aOe <| A2 aOf <| A2 aTa <| A2 aTb <| A2 aTc <| A2 aTd <| A2 aTe <| A2 aTf <| A2 aTg <| A2 aTh <| A2 aTi <| A2 aTj <| A2 aTk <| A2 aTl <| A2 aTm <| A2 aTn <| A2 aTo <| A2 aTp <| A2 aTq <| A2 aTr <| A2 aTs <| A2 aTt <| A2 aTu <| A2 aTv <| A2 aTw <| A2 aTx <| A2 aTy <| A2 aTz <| A2 aU0 <| A2 aU1 <| A2 aU2 <| A2 aU3 <| A2 aU4 <| A2 aU5 <| A2 aU6 <| A2 aU7 <| A2 aU8 <| A2 aU9 <| A2 aUa <| A2 aUb <| A2 aUc <| A2 aUd <| A2 aUe <| A2 aUf <| A2 aUg <| A2 aUh <| A2 aUi <| A2 aUj <| A2 bB6 <| A2 bB7 <| A2 bGk <| A2 bGl <| A2 bGm <| A2 bGn <| A2 bGo <| A2 bGp <| A2 bB8 <| A2 bB9 <| A2 bGq <| A2 bGr <| A2 bGs <| A2 bGt <| A2 bGu <| A2 bGv <| A2 bGw <| A2 bGx <| A2 bBa <| A2 bBb <| A2 bBc <| A2 ld2 <| A2 bBd <| A2 bBe <| A2 bGy <| A2 bBf <| A2 bBg <| A2 bBh <| A2 bGz <| A2 bH0 <| A2 bH1 <| A2 bH2 <| A2 bH3 <| A2 ld3 <| A2 bH4 <| A2 bH5 <| A2 bBi <| A2 bBj <| A2 ld4 <| A2 bH6 <| A2 ld5 <| A2 bH7 <| A2 bH8 <| A2 bH9 <| A2 bHa <| A2 bHb <| A2 bHc <| A2 bHd <| A2 bHe <| A2 bHf <| A2 bHg <| A2 ld9 <| A2 bHh <| A2 bHi <| A2 aUk <| A2 aUl <| A2 bBk <| A2 bBl <| A2 bBm <| A2 bBn <| A2 bBo <| A2 bBp <| A2 aUm <| A2 aUn <| A2 bBq <| A2 bBr <| A2 bBs <| A2 bBt <| A2 bBu <| A2 bBv <| A2 bHj <| A2 bBw <| A2 bBx <| A2 bHk <| A2 bHl <| A2 bHm <| A2 bHn <| A2 bD9 <| A2 bHp <| A2 bHq <| A2 bHs <| A2 bHt <| A2 bHu <| A2 bHv <| A2 bBy <| A2 bBz <| A2 bC0 <| A2 bC1 <| A2 bC2 <| A2 bHw <| A2 bC3 <| A2 bC4 <| A2 bHx <| A2 bHy <| A2 bHz <| A2 bI0 <| A2 bI1 <| A2 st3 <| A2 bI2 <| A2 bI3 <| A2 bC5 <| A2 st4 <| A2 bI4 <| A2 st5 <| A2 bI5 <| A2 bI6 <| A2 bI7 <| A2 bI8 <| A2 bI9 <| A2 bIa <| A2 bIb <| A2 bIc <| A2 bId <| A2 st9 <| A2 bIe <| bIf):=A2 aT3 <| A2 bA5 <| A2 bA6 <| A2 bA7 <| A2 bA8 <| A2 bA9 <| A2 bAa <| A2 bAb <| A2 bAc <| A2 bAd <| A2 bAe <| A2 bAf <| A2 bAg <| A2 bAh <| A2 bAi <| A2 bAj <| A2 bAk <| A2 bAl <| A2 bAm <| A2 bAn <| A2 bAo <| A2 bAp <| A2 bAq <| A2 bAr <| A2 bF6 <| A2 bAs <| A2 bF7 <| A2 bF8 <| A2 bF9 <| A2 bFa <| A2 bFb <| A2 bFc <| A2 bFd <| A2 bFe <| A2 bFf <| A2 bFg <| A2 bFh <| A2 bFi <| A2 bAt <| A2 bFj <| A2 bFk <| A2 bFl <| A2 bFm <| A2 bFn <| A2 bFo <| A2 bAu <| A2 bAv <| A2 bFp <| A2 bFq <| A2 bFr <| A2 bFs <| A2 bFt <| A2 bFu <| A2 bFv <| A2 bFw <| A2 aNe <| A2 aNf <| A2 aNg <| A2 aNh <| A2 aNi <| A2 aNj <| A2 aNk <| A2 aNl <| A2 aNm <| A2 aNn <| A2 aNo <| A2 aNp <| A2 aNq <| A2 aNr <| A2 aNs <| A2 aNt <| A2 aNu <| A2 aNv <| A2 aNw <| A2 aNx <| A2 aNy <| A2 aNz <| A2 aO0 <| A2 aO1 <| A2 aO2 <| A2 aO3 <| A2 aO4 <| A2 aO5 <| A2 aO6 <| A2 aO7 <| A2 aO8 <| A2 aO9 <| A2 aOa <| A2 aOb <| A2 aOc <| A2 aOd <| A2 aT4 <| A2 aT5 <| A2 aT6 <| A2 aT7 <| A2 aT8 <| A2 aT9 <| A2 aOe <| A2 aOf <| A2 aTa <| A2 aTb <| A2 aTc <| A2 aTd <| A2 aTe <| A2 aTf <| A2 aTg <| A2 aTh <| A2 aTi <| A2 aTj <| A2 aTk <| A2 aTl <| A2 aTm <| A2 aTn <| A2 aTo <| A2 aTp <| A2 aTq <| A2 aTr <| A2 aTs <| A2 aTt <| A2 aTu <| A2 aTv <| A2 aTw <| A2 aTx <| A2 aTy <| A2 aTz <| A2 aU0 <| A2 aU1 <| A2 aU2 <| A2 aU3 <| A2 aU4 <| A2 aU5 <| A2 aU6 <| A2 aU7 <| A2 aU8 <| A2 aU9 <| A2 aUa <| A2 aUb <| A2 aUc <| A2 aUd <| A2 aUe <| A2 aUf <| A2 aUg <| A2 aUh <| A2 aUi <| A2 aUj <| A2 bB6 <| A2 bB7 <| A2 bGk <| A2 bGl <| A2 bGm <| A2 bGn <| A2 bGo <| A2 bGp <| A2 bB8 <| A2 bB9 <| A2 bGq <| A2 bGr <| A2 bGs <| A2 bGt <| A2 bGu <| A2 bGv <| A2 bGw <| A2 bGx <| A2 bBa <| A2 bBb <| A2 bBc <| A2 ld2 <| A2 bBd <| A2 bBe <| A2 bGy <| A2 bBf <| A2 bBg <| A2 bBh <| A2 bGz <| A2 bH0 <| A2 bH1 <| A2 bH2 <| A2 bH3 <| A2 ld3 <| A2 bH4 <| A2 bH5 <| A2 bBi <| A2 bBj <| A2 ld4 <| A2 bH6 <| A2 ld5 <| A2 bH7 <| A2 bH8 <| A2 bH9 <| A2 bHa <| A2 bHb <| A2 bHc <| A2 bHd <| A2 bHe <| A2 bHf <| A2 bHg <| A2 ld9 <| A2 bHh <| A2 bHi <| A2 aUk <| A2 aUl <| A2 bBk <| A2 bBl <| A2 bBm <| A2 bBn <| A2 bBo <| A2 bBp <| A2 aUm <| A2 aUn <| A2 bBq <| A2 bBr <| A2 bBs <| A2 bBt <| A2 bBu <| A2 bBv <| A2 bHj <| A2 bBw <| A2 bBx <| A2 bHk <| A2 bHl <| A2 bHm <| A2 bHn <| A2 bD9 <| A2 bHp <| A2 bHq <| A2 bHs <| A2 bHt <| A2 bHu <| A2 bHv <| A2 bBy <| A2 bBz <| A2 bC0 <| A2 bC1 <| A2 bC2 <| A2 bHw <| A2 bC3 <| A2 bC4 <| A2 bHx <| A2 bHy <| A2 bHz <| A2 bI0 <| A2 bI1 <| A2 st3 <| A2 bI2 <| A2 bI3 <| A2 bC5 <| A2 st4 <| A2 bI4 <| A2 st5 <| A2 bI5 <| A2 bI6 <| A2 bI7 <| A2 bI8 <| A2 bI9 <| A2 bIa <| A2 bIb <| A2 bIc <| A2 bId <| A2 st9 <| A2 bIe <| bIf
theorem ls:(∀ {α:Type} (a:α) (l:List α),(a::l)[0]?=some a)∧(∀ {α:Type} (a:α) (l:List α) (i:Nat),(a::l)[i+1]?=l[i]?)∧(∀ {α:Type} (i:Nat),([]:List α)[i]?=none)∧(∀ {α:Type} (a:α) (l:List α),(a::l).length=l.length+1)∧(∀ {α:Type},([]:List α).length=0) ∧
  (∀ {α:Type} (l:List α),l.drop 0=l)∧(∀ {α:Type} (a:α) (l:List α) (i:Nat),(a::l).drop (i+1)=l.drop i)∧(∀ {α:Type} (l:List α),l.take 0=[])∧(∀ {α:Type} (a:α) (l:List α) (i:Nat),(a::l).take (i+1)=a::l.take i)∧(∀ {α:Type} (i:Nat),([]:List α).take i=[])∧(∀ {α:Type} (i:Nat),([]:List α).drop i=[]) ∧
  (∀ {α:Type} (l:List α),[]++l=l)∧(∀ {α:Type} (a:α) (l m:List α),a::l++m=a::(l++m))∧(∀ {α:Type} (a b:α) (l:List α),(a::l).set 0 b=b::l)∧(∀ {α:Type} (a b:α) (l:List α) (i:Nat),(a::l).set (i+1) b=a::l.set i b) ∧
  (∀ b:Bool,(true&&b)=b)∧(∀ b:Bool,(b&&true)=b)∧(∀ b:Bool,(!!b)=b)∧(∀ {p q:Prop},(if true=true then p else q)=p)∧(∀ {p q:Prop},(if false=true then p else q)=q)∧(!true)=false∧(!false)=true∧(∀ {α:Type} (a b:α),(if True then a else b)=a)∧(∀ {α:Type} (a b:α),(if False then a else b)=b)∧(∀ n:Nat,0+n=n)∧(∀ n:Nat,n+0=n)∧(∀ {α:Type} (f:α→List V) (l:List α),(l.map f).length=l.length) ∧
  (∀ (p:Prop) [Decidable p],(decide p=true)=p)∧(∀ (p:Prop) [Decidable p],((!decide p)=true)=¬ p)∧(∀ p:Prop,(p∧True)=p)∧(∀ p:Prop,(True∧p)=p)∧(∀ n:Nat,(n≤n)=True)∧(∀ n:Nat,(0≤n)=True)∧(∀ (a:Nat),(a=a)=True):=
 ⟨fun _ _=>rfl,fun _ _ _=>rfl,fun _=>rfl,fun _ _=>rfl,rfl,fun _=>rfl,fun _ _ _=>rfl,fun _=>rfl,fun _ _ _=>rfl,fun _=>by simp,fun _=>by simp,fun _=>rfl,fun _ _ _=>rfl,fun _ _ _=>rfl,fun _ _ _ _=>rfl,Bool.true_and,Bool.and_true,Bool.not_not,by intros;rfl,by intros;rfl,rfl,rfl,fun _ _=>if_pos trivial,fun _ _=>if_neg id,Nat.zero_add,Nat.add_zero,fun _ _=>List.length_map ..,fun p _=>by simp,fun p _=>by simp,and_true,true_and,fun n=>by simp,fun n=>by simp,fun n=>by simp⟩
theorem gm (n:Nat) (S:St) (a v:Nat):aA ⟨n,S.heap⟩ a v=aA S a v:=rfl
theorem bIn {l:List Int} {i:Nat} {a:Int} (hi:l[i]?=some a) (k:IntKind):gS 1 (.imm (l.map cD)) (.int k (i:Int))=.ok (.iptr (cD a) 0):=ixI (enc:=cD) hi rfl k
theorem oL {l:List Rate} {i:Nat} {a:Rate} (hi:l[i]?=some a) (k:IntKind):gS 5 (.imm (l.map Rate.enc)) (.int k (i:Int))=.ok (.iptr a.enc 0):=ixI (enc:=Rate.enc) hi rfl k
theorem lU {l:List Ser} {i:Nat} {a:Ser} (hi:l[i]?=some a) (k:IntKind):gS 4 (.imm (l.map Ser.enc)) (.int k (i:Int))=.ok (.iptr a.enc 0):=ixI (enc:=Ser.enc) hi rfl k
theorem lM {l:List Sess} {i:Nat} {a:Sess} (hi:l[i]?=some a) (k:IntKind):gS 5 (.imm (l.map Sess.enc)) (.int k (i:Int))=.ok (.iptr a.enc 0):=ixI (enc:=Sess.enc) hi rfl k
theorem oC {l:List Bal} {i:Nat} {a:Bal} (hi:l[i]?=some a) (k:IntKind):gS 2 (.imm (l.map Bal.enc)) (.int k (i:Int))=.ok (.iptr a.enc 0):=ixI (enc:=Bal.enc) hi rfl k
theorem iT {l:List Part} {i:Nat} {a:Part} (hi:l[i]?=some a) (k:IntKind):gS 4 (.imm (l.map Part.enc)) (.int k (i:Int))=.ok (.iptr a.enc 0):=ixI (enc:=Part.enc) hi rfl k
theorem bDd {l:List Line} {i:Nat} {a:Line} (hi:l[i]?=some a) (k:IntKind):gS 4 (.imm (l.map Line.enc)) (.int k (i:Int))=.ok (.iptr a.enc 0):=ixI (enc:=Line.enc) hi rfl k
theorem bL {α:Type} {l:List α} {i:Nat} {a:α} (h:l[i]?=some a):((i:Int)<(l.length:Int))=True:=by
 have:=(List.getElem?_eq_some_iff.1 h).1
 simp;exact this
theorem iE {i:Nat} (h:i<1000000000):wr .i64 ((i:Int)+1)=((i+1:Nat):Int):=by rw [mU (by omega) (by omega)];omega
theorem wrm {i:Nat} (h:i+1<1000000000):wr .i64 (((i+1:Nat):Int) - 1)=(i:Int):=by rw [mU (by omega) (by omega)];omega
theorem gt0 (i:Nat):((0:Int)<((i+1:Nat):Int))=True:=by simp
theorem aJm {n i a:Nat} (h:(List.range n)[i]?=some a):i<n∧a=i:=by
 have hl:i<n:=by simpa using (List.getElem?_eq_some_iff.1 h).1
 rw [List.getElem?_range hl] at h
 exact ⟨hl,(Option.some.inj h).symm⟩
theorem oo : (∀ (S : St) (v : V), gK S v = cM kO (lY (iZ S 3) S) v) ∧ (∀ (σ : V → Go.AM.R V) (l : List V), cM kO σ (.tup l) = (match frzVs kO σ l with
      | .ok cs => .ok (.tup cs)
      | .error e => .error e)) ∧ (∀ (σ : V → Go.AM.R V) (l : List V), cM kO σ (.agg l) = (match frzVs kO σ l with
      | .ok cs => .ok (.agg cs)
      | .error e => .error e)) ∧ (∀ σ : V → Go.AM.R V, frzVs kO σ [] = .ok []) ∧ (∀ (σ : V → Go.AM.R V) (v : V) (l : List V), frzVs kO σ (v :: l) = (match cM kO σ v with
      | .ok v => (match frzVs kO σ l with
        | .ok l => .ok (v :: l)
        | .error e => .error e)
      | .error e => .error e)) ∧ (∀ (σ : V → Go.AM.R V) (b : Bool), cM kO σ (.bool b) = .ok (.bool b)) ∧ (∀ (σ : V → Go.AM.R V) (k : IntKind) (n : Int), cM kO σ (.int k n) = .ok (.int k n)) ∧ (∀ (σ : V → Go.AM.R V) (s : List UInt8), cM kO σ (.str s) = .ok (.str s)) ∧
    (∀ (σ : V → Go.AM.R V) (es : List (List V)), cM kO σ (.imm es) = .ok (.imm es)) ∧ (∀ σ : V → Go.AM.R V, cM kO σ .nils = .ok (.imm [])) ∧ (∀ (σ : V → Go.AM.R V) (a b c d e : Nat), cM kO σ (.sl a b c d e) = σ (.sl a b c d e)) :=
  ⟨fun _ _ => rfl, fun σ l => by simp only [cM] <;> rfl, fun σ l => by simp only [cM] <;> rfl, fun _ => rfl, fun σ v l => by simp only [frzVs] <;> rfl, fun _ _ => rfl, fun _ _ _ => rfl, fun _ _ => rfl, fun _ _ => rfl, fun _ => rfl, fun _ _ _ _ _ _ => rfl⟩
theorem unK:(∀ (k:IntKind) (n:Int),unV .neg (.int k n)=.ok (.int k (wr k (0 - n))))∧(∀ n:Int,unV .xor (.int .u64 n)=.ok (.int .u64 (aEh n))):=⟨fun _ _=>rfl,fun _=>rfl⟩
theorem nk:(∀ n:Nat,(0=n+1)=False)∧(∀ n:Nat,(n+1=0)=False)∧(∀ n m:Nat,(n+1=m+1)=(n=m))∧(∀ {α:Type} {a b:α},(a≠b)=¬ a=b)∧(¬ False)=True:=⟨fun n=>by simp,fun n=>by simp,fun n m=>by simp,by intros;rfl,by simp⟩
theorem ex:type_of% (A2 bAw <| A2 bAx <| A2 bAy <| A2 bAz <| A2 bB0 <| A2 bB1 <| A2 bB2 <| A2 bB3 <| A2 bB4 <| A2 bB5 <| A2 bG3 <| A2 bG4 <| A2 bG6 <| A2 bG7 <| A2 bG9 <| A2 bGa <| A2 bGc <| A2 bGd <| A2 bGf <| A2 bGg <| A2 bGi <| bGj):=A2 bAw <| A2 bAx <| A2 bAy <| A2 bAz <| A2 bB0 <| A2 bB1 <| A2 bB2 <| A2 bB3 <| A2 bB4 <| A2 bB5 <| A2 bG3 <| A2 bG4 <| A2 bG6 <| A2 bG7 <| A2 bG9 <| A2 bGa <| A2 bGc <| A2 bGd <| A2 bGf <| A2 bGg <| A2 bGi <| bGj
theorem agK (P : Program) : (∀ (t : TypeId) (a b : List V), bQ P .eql t (.agg a) (.agg b) = (match rY P 100 t (.agg a) (.agg b) with
      | .ok r => .ok (.bool r)
      | .error e => .error e)) ∧ (∀ (t : TypeId) (a b : List V), bQ P .neq t (.agg a) (.agg b) = (match rY P 100 t (.agg a) (.agg b) with
      | .ok r => .ok (.bool (!r))
      | .error e => .error e)) := ⟨fun _ _ _ => rfl, fun _ _ _ => rfl⟩
theorem kk:type_of% (A2 sf <| A2 ex <| A2 (agK prog) <| A2 bCe <| A2 nk <| A2 kit <| A2 (bIl prog) <| A2 bIm <| A2 fx ls):=A2 sf <| A2 ex <| A2 (agK prog) <| A2 bCe <| A2 nk <| A2 kit <| A2 (bIl prog) <| A2 bIm <| A2 fx ls
theorem bNu (y:Int) (S:St) (K:KW):C 204 [.int .i64 y] S K=K (.bool (aHs y)) S:=by
 refine (bMc rfl ?_).eq S K
 delta Tryz.f204;simp only [↓cw,↓reduceIte,Nat.reduceLT,kk,ne_eq,Int.reduceEq,not_false_eq_true,aHs]
 grind
theorem bNv (y:Int) (S:St) (K:KW):C 246 [.int .i64 y] S K=K (.bool (aHs y)) S:=by
 refine (bMy rfl ?_).eq S K
 delta Tryz.f246;simp only [↓cw,↓reduceIte,Nat.reduceLT,kk,ne_eq,Int.reduceEq,not_false_eq_true,aHs]
 grind
theorem bIp (y m:Int) (S:St) (K:KW):C 132 [.int .i64 y,.int .i64 m] S K=K (.int .i64 (eM y m)) S:=by
 refine (bLc rfl ?_).eq S K
 delta Tryz.f132;simp only [↓cw,↓reduceIte,Nat.reduceLT,kk,bNu,eM]
 grind
def uD (y m:Int):Int:=if 1≤m∧m≤12 then eM y m else 0
theorem bIq (y m:Int) (S:St) (K:KW):C 196 [.int .i64 y,.int .i64 m] S K=K (.int .i64 (uD y m)) S:=by
 refine (bM6 rfl ?_).eq S K
 delta Tryz.f196;simp only [↓cw,↓reduceIte,Nat.reduceLT,kk,bNv,uD,eM]
 by_cases h:1≤m∧m≤12
 ·have h:m=1∨m=2∨m=3∨m=4∨m=5∨m=6∨m=7∨m=8∨m=9∨m=10∨m=11∨m=12:=by omega
  rcases h with rfl | rfl | rfl | rfl | rfl | rfl | rfl | rfl | rfl | rfl | rfl | rfl<;>simp
 ·have e:∀ k:Int,1≤k→k≤12→m≠k:=by omega
  simp [h,e]
theorem aJn (d:Date) (S:St) (K:KW):C 123 [.agg [.int .i64 d.y,.int .i64 d.m,.int .i64 d.d]] S K=K (.bool d.right) S:=by
 refine (bL7 rfl ?_).eq S K
 delta Tryz.f123;simp only [↓cw,↓reduceIte,Nat.reduceLT,kk,bIp,Date.right]
 grind
theorem bDf (d:Date) (S:St) (K:KW):C 118 [.agg [.int .i64 d.y,.int .i64 d.m,.int .i64 d.d]] S K=K (.bool d.right) S:=by
 refine (bL4 rfl ?_).eq S K
 delta Tryz.f118;simp only [↓cw,↓reduceIte,Nat.reduceLT,kk,bIq,Date.right,uD]
 grind
theorem bNw (y:Int) (S:St) (K:KW):C 131 [.int .i64 y] S K=K (.int .i64 (ahead y)) S:=by
 refine (bLb rfl ?_).eq S K
 delta Tryz.f131;simp only [↓cw,↓reduceIte,Nat.reduceLT,kk,ne_eq,Int.reduceEq,not_false_eq_true,ahead]
theorem bNx (d:Date) (S:St) (K:KW):C 200 [.agg [.int .i64 d.y,.int .i64 d.m,.int .i64 d.d]] S K=K (.int .i64 d.days) S:=by
 refine (bMa rfl ?_).eq S K
 delta Tryz.f200;simp only [↓cw,↓reduceIte,Nat.reduceLT,kk,aJn,bNw,Date.days]
 by_cases hr:d.right=true
 ·simp only [↓cw,↓reduceIte,Nat.reduceLT,hr,kk]
  have hm:1≤d.m∧d.m≤12:=by simp only [Date.right,Bool.and_eq_true,decide_eq_true_eq] at hr;omega
  refine aF (List.range (d.m - 1).toNat) (step:=gU d.y) (fin:=id) (fun i n vs S=>vs=[.int .i64 n,.int .i64 ((i:Int)+1)]∧aA S 0 0=.ok (3,[d.enc])) (fun r=>V.int .i64 (wr .i64 (wr .i64 (r+d.d) - 1))=.int .i64 (wr .i64 (wr .i64 (aD (gU d.y) id (List.range (d.m - 1).toNat) (ahead d.y)+d.d) - 1))) ?_ ?_ ⟨rfl,by simp only [↓cw,↓reduceIte,Nat.reduceLT,kk];rfl⟩ rfl
  ·rintro i a n vs S hi ⟨rfl,hg⟩ aE H
   obtain ⟨hil,rfl⟩:=aJm hi
   simp only [gU] at H
   simp only [↓cw,↓reduceIte,Nat.reduceLT,kk,hg,Date.enc,bIp]
   rw [if_pos (by omega)]
   refine H _ _ ⟨?_,hg⟩
   rw [mU (n:=(a:Int)+1+1) (by omega) (by omega)]
   simp
  ·rintro n vs S ⟨rfl,hg⟩ aE H
   simp only [↓cw,↓reduceIte,Nat.reduceLT,kk,hg,Date.enc]
   rw [if_neg (by simp;omega)]
   exact H
 ·have hr:d.right=false:=by simpa using hr
  simp only [↓cw,↓reduceIte,Nat.reduceLT,hr,kk]
theorem aXy (a b:Date) (S:St) (K:KW):C 124 [.agg [.int .i64 a.y,.int .i64 a.m,.int .i64 a.d],.agg [.int .i64 b.y,.int .i64 b.m,.int .i64 b.d]] S K=K (.bool (a.before b)) S:=by
 refine (bL8 rfl ?_).eq S K
 delta Tryz.f124;simp only [↓cw,↓reduceIte,Nat.reduceLT,kk,iI,aJn,bNx,Date.before]
 cases a.right<;>cases b.right<;>simp
theorem bNy (n:Int) (S:St) (K:KW):C 286 [.int .i64 n] S K=K (.int .u64 (oY n)) S:=by
 refine (bN7 rfl ?_).eq S K
 delta Tryz.f286;simp only [↓cw,↓reduceIte,Nat.reduceLT,kk,unK,oY]
 split<;>rfl
theorem bNz (n:Int) (b:Bool) (S:St) (K:KW):C 287 [.int .u64 n,.bool b] S K=K (.tup [.int .i64 (aBm n b).1,.bool (aBm n b).2]) S:=by
 refine (bN8 rfl ?_).eq S K
 delta Tryz.f287;simp only [↓cw,↓reduceIte,Nat.reduceLT,kk,unK,oo,aBm]
 cases b<;>simp
theorem aXz (a b:Int) (S:St) (K:KW):C 203 [.int .i64 a,.int .i64 b] S K=K (dF (cS a b)) S:=by
 refine (bMb rfl ?_).eq S K
 delta Tryz.f203;simp only [↓cw,↓reduceIte,Nat.reduceLT,kk,oo,cS,dF]
 grind
theorem bIr (a b:Int) (S:St) (K:KW):C 127 [.int .i64 a,.int .i64 b] S K=K (dF (cS a b)) S:=by
 refine (bLa rfl ?_).eq S K
 delta Tryz.f127;simp only [↓cw,↓reduceIte,Nat.reduceLT,kk,oo,cS,dF]
 grind
theorem bDg (a b:Int) (S:St) (K:KW):C 219 [.int .i64 a,.int .i64 b] S K=K (dF (bR a b)) S:=by
 refine (bMg rfl ?_).eq S K
 delta Tryz.f219;simp only [↓cw,↓reduceIte,Nat.reduceLT,kk,oo,bR,dF]
 grind
theorem bDh (a b:Int) (S:St) (K:KW):C 198 [.int .i64 a,.int .i64 b] S K=K (dF (bR a b)) S:=by
 refine (bM8 rfl ?_).eq S K
 delta Tryz.f198;simp only [↓cw,↓reduceIte,Nat.reduceLT,kk,oo,bR,dF]
 grind
theorem bO0:(fun (a b:Bool)=>bQ prog .neq 4 (.bool a) (.bool b))=fun a b=>.ok (.bool (!(a == b))):=by kernel_rfl
theorem bO1 (a b:Bool):bQ prog .neq 4 (.bool a) (.bool b)=.ok (.bool (!(a == b))):=congrFun (congrFun bO0 a) b
theorem bO2 (a b:Int) (S:St) (K:KW):C 279 [.int .i64 a,.int .i64 b] S K=K (dF (aM3 a b)) S:=by
 refine (bN6 rfl ?_).eq S K
 delta Tryz.f279;simp only [↓cw,↓reduceIte,Nat.reduceLT,kk,bNy,bNz,bO1,oo,dF,aM3]
 by_cases h:0<oY b
 ·have h0:oY b≠0:=by omega
  simp only [↓cw,↓reduceIte,Nat.reduceLT,h,h0,kk,ne_eq,not_false_eq_true]
  grind
 ·simp only [↓cw,↓reduceIte,Nat.reduceLT,h,kk]
  grind
def aD7 (n:Int):Int:=if n<0 then wr .u64 (wr .u64 (wr .i64 (0 - wr .i64 (n+1)))+1) else wr .u64 n
theorem bO3 (n:Int) (S:St) (K:KW):C 222 [.int .i64 n] S K=K (.int .u64 (aD7 n)) S:=by
 refine (bMi rfl ?_).eq S K
 delta Tryz.f222;simp only [↓cw,↓reduceIte,Nat.reduceLT,kk,unK,aD7]
 split<;>rfl
theorem bO4 (n bp:Int) (S:St) (K:KW):C 254 [.int .i64 n,.int .i64 bp,.int .i64 10000] S K=K (dF (bF n bp)) S:=by
 refine (bMz rfl ?_).eq S K
 delta Tryz.f254;simp only [↓cw,↓reduceIte,Nat.reduceLT,kk,unK,oo,dF,bDb,aD1,ne_eq,Int.reduceEq,not_false_eq_true]
 unfold bF
 simp only [oY]
 by_cases hn:n<0<;>simp only [↓cw,↓reduceIte,Nat.reduceLT,hn,kk,if_true,if_false,aD1]
 all_goals
  by_cases hp:wr .u64 bp=0
  ·simp only [↓cw,↓reduceIte,Nat.reduceLT,hp,kk,aD1]
   grind
  ·simp only [↓cw,↓reduceIte,Nat.reduceLT,hp,kk,aD1,ne_eq,not_false_eq_true]
   grind
theorem bIs (n bp:Int) (S:St) (K:KW):C 217 [.int .i64 n,.int .i64 bp] S K=K (dF (bF n bp)) S:=by
 refine (bMe rfl ?_).eq S K
 delta Tryz.f217;simp only [↓cw,↓reduceIte,Nat.reduceLT,kk,bO4,dF,oo]
def aUw (n bp:Int):Int×Int:=if bp<0∨100000<bp then (0,1) else
 if 0<bp∧wr .u64 ((9223372036854775807:Int).tdiv (wr .u64 bp))<wr .u64 ((aD7 n).tdiv 10000) then (0,7) else
  let t:=wr .u64 (wr .u64 (wr .u64 ((aD7 n).tdiv 10000)*wr .u64 bp)+wr .u64 ((wr .u64 (wr .u64 ((aD7 n).tmod 10000*wr .u64 bp)+5000)).tdiv 10000))
  if 9223372036854775807<t then (0,7) else if n<0 then (wr .i64 (0 - wr .i64 t),0) else (wr .i64 t,0)
theorem bO5 (n bp:Int) (S:St) (K:KW):C 160 [.int .i64 n,.int .i64 bp] S K=K (dF (aUw n bp)) S:=by
 refine (bLh rfl ?_).eq S K
 delta Tryz.f160;simp only [↓cw,↓reduceIte,Nat.reduceLT,kk,bO3,unK,oo,dF,ne_eq,Int.reduceEq,not_false_eq_true,aUw]
 by_cases hb:bp<0∨100000<bp
 ·grind
 ·have hw:wr .u64 bp=bp:=by unfold wr lo hi;simp only;rw [if_pos (by omega)]
  by_cases hp:0<bp
  ·have hp2:bp≠0:=by omega
   simp only [↓cw,↓reduceIte,Nat.reduceLT,hp,hp2,hw,kk,ne_eq,not_false_eq_true]
   grind
  ·simp only [↓cw,↓reduceIte,Nat.reduceLT,hp,kk]
   grind
theorem bDi:(fun (a b c:Int)=>pR Tryz.f255 [.int .u64 a,.int .u64 b,.int .u64 c])=fun a b c=>
  bif decide (0≤a)&&decide (0≤b)&&decide (0≤c)&&decide (c≤1) then .ok (.tup [.int .u64 ((a+b+c) % 18446744073709551616),.int .u64 ((a+b+c) / 18446744073709551616)]) else .error "Add64":=by kernel_rfl
theorem aOl {a b c:Int} (ha:0≤a) (hb:0≤b) (hc:0≤c) (hc1:c≤1):pR Tryz.f255 [.int .u64 a,.int .u64 b,.int .u64 c]=.ok (.tup [.int .u64 ((a+b+c) % 18446744073709551616),.int .u64 ((a+b+c) / 18446744073709551616)]):=by
 refine (congrFun (congrFun (congrFun bDi a) b) c).trans ?_
 simp only [ha,hb,hc,hc1,decide_true,Bool.and_self,cond_true]
theorem aQo (P:Program) (t:TypeId) (a:Int):bQ P .shr t (.int .u64 a) (.int .u64 63)=.ok (.int .u64 (a.fdiv (2 ^ 63))):=rfl
theorem bO6 (l:List Int) (hb:l.length<1000000) (S:St) (K:KW):C 218 [.imm (l.map cD)] S K=K (.tup [.int .i64 (dO l).1,.bool (dO l).2]) S:=by
 refine (bMf rfl ?_).eq S K
 delta Tryz.f218;simp only [↓cw,↓reduceIte,Nat.reduceLT,kk]
 refine aF l (step:=tW) (fin:=sQ) (fun i st vs S=>vs=[.int .u64 st.1,.int .u64 st.2,.int .i64 (i:Int)]∧0≤st.1∧st.1<18446744073709551616∧0≤st.2∧st.2<18446744073709551616) (fun r=>V.tup [.int .i64 r.1,.bool r.2]=.tup [.int .i64 (dO l).1,.bool (dO l).2])
  ?_ ?_ (s:=(0,0)) ⟨rfl,by decide,by decide,by decide,by decide⟩ rfl
 ·rintro i n ⟨h,lo⟩ vs S hi ⟨rfl,r1,r2,r3,r4⟩ aE H
  have hr:=aQk n
  have hil:=(List.getElem?_eq_some_iff.1 hi).1
  simp only at r1 r2 r3 r4
  have hc1:(lo+wr .u64 n+0) / 18446744073709551616≤1:=by omega
  have hc0:0≤(lo+wr .u64 n+0) / 18446744073709551616:=by omega
  have hI:=H [.int .u64 ((h+(if n<0 then 18446744073709551615 else 0)+(lo+wr .u64 n+0) / 18446744073709551616) % 18446744073709551616),.int .u64 ((lo+wr .u64 n+0) % 18446744073709551616),.int .i64 ((i+1:Nat):Int)] S ⟨rfl,by simp only;omega,by simp only;omega,by simp only;omega,by simp only;omega⟩
  simp only [↓cw,↓reduceIte,Nat.reduceLT,kk,bL hi,bIn hi,cD,unK,bIh]
  by_cases hn:n<0
  ·simp only [↓cw,↓reduceIte,Nat.reduceLT,hn,kk,if_true,aOl (c:=0) r3 hr.1 (by decide) (by decide),aOl r1 (show (0:Int)≤18446744073709551615 by decide) hc0 hc1,iE (show i<1000000000 by omega)] at hI ⊢
   exact hI
  ·simp only [↓cw,↓reduceIte,Nat.reduceLT,hn,kk,if_false,aOl (c:=0) r3 hr.1 (by decide) (by decide),aOl r1 (show (0:Int)≤0 by decide) hc0 hc1,iE (show i<1000000000 by omega)] at hI ⊢
   exact hI
 ·rintro ⟨h,lo⟩ vs S ⟨rfl,r1,r2,r3,r4⟩ aE H
  simp only [↓cw,↓reduceIte,Nat.reduceLT,kk,Int.lt_irrefl,aQo,sQ,oo] at H ⊢
  by_cases c:lo.fdiv (2 ^ 63)=0<;>simp only [↓cw,↓reduceIte,Nat.reduceLT,c,kk,if_true,if_false] at H ⊢<;>exact H
theorem bO7 (r:Int) (S:St) (K:KW):C 225 [.int .i32 r] S K=K (.bool (mD r)) S:=by
 refine (bMk rfl ?_).eq S K
 delta Tryz.f225;simp only [↓cw,↓reduceIte,Nat.reduceLT,kk,mD]
 grind
theorem bO8 (r:Int) (S:St) (K:KW):C 245 [.int .i32 r] S K=K (.bool (mD r)) S:=by
 refine (bMx rfl ?_).eq S K
 delta Tryz.f245;simp only [↓cw,↓reduceIte,Nat.reduceLT,kk,mD]
 grind
theorem aY0 (s:List UInt8) (a pos:Nat) (S:St) (hg:S.heap.get a=some (.iter s pos)) (hl:pos<s.length):
  xW (.ptr a 0 0 0) S=.ok (.tup [.bool true,.int .i64 pos,.int .i32 (Utf8.decode ⟨⟨s⟩⟩ pos).1],⟨S.next,S.heap.put a (.iter s (pos+(Utf8.decode ⟨⟨s⟩⟩ pos).2))⟩):=by
 have hb:Nat.blt pos s.length=true:=Nat.ble_eq_true_of_le hl
 have hs:s[pos]?=some s[pos]:=List.getElem?_eq_getElem hl
 simp only [xW,hg,hb,hs]
 split
 ·rename_i h
  rw [Go.AM.decode_ascii hs (by simpa using h)]
 ·rfl
theorem aJo (s:List UInt8) (a pos:Nat) (S:St) (hg:S.heap.get a=some (.iter s pos)) (hl:s.length≤pos):xW (.ptr a 0 0 0) S=.ok (.tup [.bool false],S):=by
 have hb:Nat.blt pos s.length=false:=by
  cases h:Nat.blt pos s.length with
  | false=>rfl
  | true=>exact absurd (Nat.le_of_ble_eq_true h) (by omega)
 simp only [xW,hg,hb]
def IterAt (s:List UInt8) (i:Nat) (S:St):Prop:=∃ pos f,S.heap.get 0=some (.iter s pos)∧(lS s s.length 0).drop i=lS s f pos∧s.length≤f+pos
theorem IterAt.next {s:List UInt8} {i:Nat} {S:St} (h:IterAt s i S) {q r:Nat} (hi:(lS s s.length 0)[i]?=some (q,r)):∃ S',xW (.ptr 0 0 0 0) S=.ok (.tup [.bool true,.int .i64 q,.int .i32 r],S')∧IterAt s (i+1) S':=by
 obtain ⟨pos,f,hg,hd,hf⟩:=h
 have hd0:=congrArg (·[0]?) hd
 simp only [List.getElem?_drop,Nat.add_zero,hi] at hd0
 cases f with
 | zero=>simp [lS] at hd0
 | succ f=>
  have hl:pos<s.length:=by
   by_cases hl:pos<s.length
   ·exact hl
   ·simp [lS,hl] at hd0
  have hd2:lS s (f+1) pos=(pos,(Utf8.decode ⟨⟨s⟩⟩ pos).1)::lS s f (pos+(Utf8.decode ⟨⟨s⟩⟩ pos).2):=by simp only [lS,hl,if_true]
  rw [hd2] at hd0 hd
  simp only [List.getElem?_cons_zero,Option.some.injEq,Prod.mk.injEq] at hd0
  obtain ⟨rfl,rfl⟩:=hd0
  have hw:=aJh ⟨⟨s⟩⟩ q
  exact ⟨_,aY0 s 0 q S hg hl,_,f,Tr.get_put_sameB _ _ _ trivial,by rw [←List.drop_drop,hd];rfl,by omega⟩
theorem IterAt.last {s:List UInt8} {S:St} (h:IterAt s (lS s s.length 0).length S):xW (.ptr 0 0 0 0) S=.ok (.tup [.bool false],S):=by
 obtain ⟨pos,f,hg,hd,hf⟩:=h
 rw [List.drop_length] at hd
 cases f with
 | zero=>exact aJo s 0 pos S hg (by omega)
 | succ f=>
  by_cases hl:pos<s.length
  ·simp [lS,hl] at hd
  ·exact aJo s 0 pos S hg (by omega)
theorem yR (s:List UInt8):aH6 (.str s) none ⟨0,.nil⟩=.ok (.ptr 0 0 0 0,⟨1,Tr.nil.put 0 (.iter s 0)⟩)∧IterAt s 0 ⟨1,Tr.nil.put 0 (.iter s 0)⟩:=⟨rfl,0,s.length,Tr.get_put_sameB _ _ _ trivial,rfl,by omega⟩
theorem aUx (s:List UInt8) (S:St) (K:KW):C 165 [.str s] S K=K (.bool (cW s)) S:=by
 refine (bLl rfl ?_).eq S K
 delta Tryz.f165;simp only [↓cw,↓reduceIte,Nat.reduceLT,kk,(yR s).1,cW]
 by_cases h1:s.length<1
 ·rw [if_pos (by omega)];simp [h1]
 by_cases h2:24<s.length
 ·rw [if_neg (by omega),if_pos (by omega)];simp [h1,h2]
 rw [if_neg (by omega),if_neg (by omega)]
 simp only [↓cw,↓reduceIte,Nat.reduceLT,h1,h2,kk]
 refine aF (lS s s.length 0) (step:=mW) (fin:=fun _=>true) (fun i _ vs S=>vs=[.bool false]∧IterAt s i S) (fun r=>V.bool r=.bool (aD mW (fun _=>true) (lS s s.length 0) ())) ?_ ?_ (s:=()) ⟨rfl,(yR s).2⟩ rfl
 ·rintro i ⟨q,r⟩ _ vs S hi ⟨rfl,hI⟩ aE H
  obtain ⟨S',e,hI'⟩:=hI.next hi
  simp only [↓cw,↓reduceIte,Nat.reduceLT,kk,e,bO7]
  simp only [mW] at H
  have H1:=fun h:mD (r:Int)=true=>(by simpa only [h,if_true] using H:∀ vs' S',vs'=[.bool false]∧IterAt s (i+1) S'→aE vs' S') [.bool false] S' ⟨rfl,hI'⟩
  by_cases c1:mD (r:Int)=true
  ·simp only [c1,if_true];exact H1 c1
  ·simp only [c1,if_false] at H ⊢
   by_cases c2:q=0
   ·subst c2;simp at H ⊢;exact H
   ·have c2':¬ (q:Int)=0:=by omega
    simp only [c2,c2',if_false] at H ⊢
    by_cases c3:(48≤r∧r≤57)∨r=45∨r=95∨r=46
    ·simp only [c3,if_true] at H
     have h0:=H [.bool false] S' ⟨rfl,hI'⟩
     grind
    ·simp only [c3,if_false] at H
     grind
 ·rintro _ vs S ⟨rfl,hI⟩ aE H
  simp only [↓cw,↓reduceIte,Nat.reduceLT,kk,hI.last]
  exact H
theorem bDj (s:List UInt8) (S:St) (K:KW):C 195 [.str s] S K=K (.bool (cW s)) S:=by
 refine (bM5 rfl ?_).eq S K
 delta Tryz.f195;simp only [↓cw,↓reduceIte,Nat.reduceLT,kk,(yR s).1,cW]
 by_cases h1:s=[]
 ·subst h1;simp
 have h0:¬ s.length<1:=by have:=List.length_pos_iff.2 h1;omega
 by_cases h2:24<s.length
 ·have h3:(24:Int)<(s.length:Int):=by omega
  simp [h0,h1,h2,h3]
 rw [if_neg (by simpa using h1),if_neg (by omega)]
 simp only [↓cw,↓reduceIte,Nat.reduceLT,h0,h2,kk]
 refine aF (lS s s.length 0) (step:=mW) (fin:=fun _=>true) (fun i _ vs S=>vs=[.bool false]∧IterAt s i S) (fun r=>V.bool r=.bool (aD mW (fun _=>true) (lS s s.length 0) ())) ?_ ?_ (s:=()) ⟨rfl,(yR s).2⟩ rfl
 ·rintro i ⟨q,r⟩ _ vs S hi ⟨rfl,hI⟩ aE H
  obtain ⟨S',e,hI'⟩:=hI.next hi
  simp only [↓cw,↓reduceIte,Nat.reduceLT,kk,e,bO8]
  simp only [mW] at H
  have H1:=fun h:mD (r:Int)=true=>(by simpa only [h,if_true] using H:∀ vs' S',vs'=[.bool false]∧IterAt s (i+1) S'→aE vs' S') [.bool false] S' ⟨rfl,hI'⟩
  by_cases c1:mD (r:Int)=true
  ·simp only [c1,if_true];exact H1 c1
  ·simp only [c1,if_false] at H ⊢
   by_cases c2:q=0
   ·subst c2;simp at H ⊢;exact H
   ·have c2':¬ (q:Int)=0:=by omega
    simp only [c2,c2',if_false] at H ⊢
    by_cases c3:(48≤r∧r≤57)∨r=45∨r=95∨r=46
    ·simp only [c3,if_true] at H
     have h0:=H [.bool false] S' ⟨rfl,hI'⟩
     grind
    ·simp only [c3,if_false] at H
     grind
 ·rintro _ vs S ⟨rfl,hI⟩ aE H
  simp only [↓cw,↓reduceIte,Nat.reduceLT,kk,hI.last]
  exact H
theorem bIt (d:Date) (S:St) (K:KW):C 126 [.agg [.int .i64 d.y,.int .i64 d.m,.int .i64 d.d]] S K=K (.int .i64 d.days) S:=by
 refine (bL9 rfl ?_).eq S K
 delta Tryz.f126;simp only [↓cw,↓reduceIte,Nat.reduceLT,kk,bDf,Date.days,ne_eq,Int.reduceEq,not_false_eq_true]
 by_cases hr:d.right=true
 ·simp only [↓cw,↓reduceIte,Nat.reduceLT,hr,kk]
  have hm:1≤d.m∧d.m≤12:=by simp only [Date.right,Bool.and_eq_true,decide_eq_true_eq] at hr;omega
  refine aF (List.range (d.m - 1).toNat) (step:=gU d.y) (fin:=id) (fun i n vs S=>vs=[.int .i64 n,.int .i64 ((i:Int)+1)]∧aA S 0 0=.ok (3,[d.enc])) (fun r=>V.int .i64 (wr .i64 (wr .i64 (r+d.d) - 1))=.int .i64 (wr .i64 (wr .i64 (aD (gU d.y) id (List.range (d.m - 1).toNat) (ahead d.y)+d.d) - 1))) ?_ ?_ ⟨rfl,by simp only [↓cw,↓reduceIte,Nat.reduceLT,kk];rfl⟩ rfl
  ·rintro i a n vs S hi ⟨rfl,hg⟩ aE H
   obtain ⟨hil,rfl⟩:=aJm hi
   simp only [gU] at H
   simp only [↓cw,↓reduceIte,Nat.reduceLT,kk,hg,Date.enc,bIq,uD]
   rw [if_pos (by omega),if_pos (by omega)]
   refine H _ _ ⟨?_,hg⟩
   rw [mU (n:=(a:Int)+1+1) (by omega) (by omega)]
   simp
  ·rintro n vs S ⟨rfl,hg⟩ aE H
   simp only [↓cw,↓reduceIte,Nat.reduceLT,kk,hg,Date.enc]
   rw [if_neg (by simp;omega)]
   exact H
 ·have hr:d.right=false:=by simpa using hr
  simp only [↓cw,↓reduceIte,Nat.reduceLT,hr,kk]
theorem bIu (r:Rate) (S:St) (K:KW):C 163 [.agg [.str r.cat,.int .i64 r.day.y,.int .i64 r.day.m,.int .i64 r.day.d,.int .i64 r.bp]] S K=K (.int .i64 (rS r)) S:=by
 refine (bLj rfl ?_).eq S K
 delta Tryz.f163;simp only [↓cw,↓reduceIte,Nat.reduceLT,kk,aUx,aJn,rS]
 cases cW r.cat<;>cases r.day.right<;>simp
 grind
theorem bO9 (r:Rate) (S:St) (K:KW):C 193 [.agg [.str r.cat,.int .i64 r.day.y,.int .i64 r.day.m,.int .i64 r.day.d,.int .i64 r.bp]] S K=K (.int .i64 (rS r)) S:=by
 refine (bM3 rfl ?_).eq S K
 delta Tryz.f193;simp only [↓cw,↓reduceIte,Nat.reduceLT,kk,bDj,bDf,rS]
 cases cW r.cat<;>cases r.day.right<;>simp
 grind
theorem bIv (a b:Rate) (S:St) (K:KW):C 164 [.agg [.str a.cat,.int .i64 a.day.y,.int .i64 a.day.m,.int .i64 a.day.d,.int .i64 a.bp],.agg [.str b.cat,.int .i64 b.day.y,.int .i64 b.day.m,.int .i64 b.day.d,.int .i64 b.bp]] S K=K (.bool (eH a b)) S:=by
 refine (bLk rfl ?_).eq S K
 delta Tryz.f164;simp only [↓cw,↓reduceIte,Nat.reduceLT,kk,aXy,iI,eH]
 cases fN a.cat b.cat<;>cases (a.cat == b.cat)<;>simp
theorem g85 (l:List Rate) (S:St) (K:KW):C 85 [.imm (l.map Rate.enc)] S K=K (.bool (dW l)) S:=by
 refine (v85 rfl ?_).eq S K
 delta Tryz.f85;simp only [↓cw,↓reduceIte,Nat.reduceLT,kk,dW]
 by_cases h:24<l.length
 ·rw [if_pos (by omega),if_pos h]
 have h':¬ (24:Int)<(l.length:Int):=by omega
 simp only [↓cw,↓reduceIte,Nat.reduceLT,h,h',kk]
 refine aF l (step:=fH) (fin:=fun _=>true) (fun i s vs S=>s=bX l i∧vs=[.bool false,.int .i64 (i:Int)]) (fun r=>V.bool r=.bool (aD fH (fun _=>true) l none)) ?_ ?_ ⟨rfl,rfl⟩ rfl
 ·rintro i r s vs S hi ⟨rfl,rfl⟩ aE H
  have hil:=(List.getElem?_eq_some_iff.1 hi).1
  have hn:bX l (i+1)=some r:=by simpa [bX] using hi
  simp only [hn] at H
  simp only [↓cw,↓reduceIte,Nat.reduceLT,kk,bL hi,oL hi,Rate.enc,bIu,iE (show i<1000000000 by omega),fH] at H ⊢
  by_cases c:rS r=0
  ·simp only [↓cw,↓reduceIte,Nat.reduceLT,c,kk,ne_eq,not_true_eq_false] at H ⊢
   cases i with
   | zero=>simp [bX] at H ⊢;exact H _ _ rfl
   | succ j=>
    have hj:l[j]?=some l[j]:=List.getElem?_eq_getElem (by omega)
    have hp:bX l (j+1)=some l[j]:=by simp [bX,hj]
    simp only [↓cw,↓reduceIte,Nat.reduceLT,hp,gt0,kk,wrm (show j+1<1000000000 by omega),oL hj,Rate.enc,bIv] at H ⊢
    cases ha:eH l[j] r<;>simp [ha] at H ⊢<;>first | exact H | exact H _ _ rfl
  ·simp [c] at H ⊢
   exact H
 ·rintro s vs S ⟨rfl,rfl⟩ aE H
  simp only [↓cw,↓reduceIte,Nat.reduceLT,kk,Int.lt_irrefl]
  exact H
end Go.Proofs.YtoaibmbldmckaaaGreat
end
section
namespace Go.AM
theorem Own.frz {S0 S:St} {n:Nat} {v:V} {es:List (List V)} (h:Own S0 S n v es) (hc:es.all cloVs=true):cM kO (lY (iZ S 3) S) v=.ok (.imm es):=by
 rcases h.is with ⟨rfl,rfl⟩ | ⟨a,ver,tl,rfl,_,_,q⟩
 ·rfl
 ·have he:aO S (.sl a ver n 0 es.length)=.ok es:=h.sl.elems
  simp only [cM,lY,he,(mV (S:=S) (n:=2) hc).1]
theorem Own.ptrs {S0 S:St} {n:Nat} {v:V} {es:List (List V)} (h:Own S0 S n v es):uM v=[]:=by
 rcases h.is with ⟨rfl,rfl⟩ | ⟨a,ver,tl,rfl,_,_,q⟩<;>rfl
theorem cR {α:Type} {enc:α→List V} (h:∀ x,cloVs (enc x)=true) (l:List α):(l.map enc).all cloVs=true:=by
 rw [List.all_eq_true]
 intro y hy
 obtain ⟨x,_,rfl⟩:=List.mem_map.1 hy
 exact h x
theorem Sl.imm {n:Nat} {es:List (List V)} (S:St) (h:∀ cs,cs∈es→cs.length=n∧aH cs=true):Sl S n (.imm es) es:=⟨.inr (.inl rfl),h⟩
abbrev E0:St:=⟨0,.nil⟩
theorem nK:WF E0:=fun a b h=>by cases h
theorem aUy {α:Type} {enc:α→List V} {n b:Nat} (hl:∀ x,(enc x).length=n∧aH (enc x)=true) (l:List α) {S:St} (w:WF S) (h1:l.length*b≤35184372088832) (h2:l.length<dR):
  ∃ v S',eE n b .nils (.imm (l.map enc)) none S=.ok (v,S')∧Ext S S'∧Own E0 S' n v (l.map enc):=by
 obtain ⟨v,S',q1,q2,q3⟩:=(Sl.imm (n:=n) (es:=l.map enc) S (fun cs hc=>by obtain ⟨x,_,rfl⟩:=List.mem_map.1 hc;exact hl x)).copy (b:=b) w (by rw [List.length_map];exact h1) (by rw [List.length_map];exact h2)
 exact ⟨v,S',q1,q2,q3.weaken (Nat.zero_le _)⟩
theorem aOm {α:Type} {enc:α→List V} {n b:Nat} (hl:∀ x,(enc x).length=n∧aH (enc x)=true) (l:List α) {S:St} (w:WF S) (h1:l.length*b≤35184372088832) (h2:l.length<dR):
  ∃ v S',eE n b .nils (.imm (l.map enc)) none S=.ok (v,S')∧Ext S S'∧Own S S' n v (l.map enc):=
 (Sl.imm (n:=n) (es:=l.map enc) S (fun cs hc=>by obtain ⟨x,_,rfl⟩:=List.mem_map.1 hc;exact hl x)).copy (b:=b) w (by rw [List.length_map];exact h1) (by rw [List.length_map];exact h2)
theorem aD8 {S:St} (w:WF S):Ext E0 S:=⟨fun a b h=>(by cases h),Nat.zero_le _,fun _=>w⟩
theorem Pt.fn {l:V} {f:FuncId} (hl:yD l=true):Pt fun a=>[l,.func f [] [.ptr a 0 0 0]]:=Pt.next hl (Pt.func rfl)
end Go.AM
namespace Go.Proofs.YtoaibmbldmckaaaGreat
open Go.AM Tryz
set_option linter.unusedVariables false
set_option linter.unusedSimpArgs false
set_option maxRecDepth 100000
theorem bOa (fk:Nat) (ht:dM prog fk=some none) {n:Nat} {cap:List V} (hcap:cloVs cap=true) (p:Sess→Bool) (hf:∀ s:Sess,Fr fk (fun a=>[.agg s.enc,.ptr a 0 0 0]) n cap (.bool (p s)) cap) (l:List Sess) (hb:l.length<1000000):
  Fr 231 (fun a=>[.imm (l.map Sess.enc),.func fk [] [.ptr a 0 0 0]]) n cap (.int .i64 (ixM p l)) cap:=by
 refine FnR.of bEp (lv:=jL [(2,[4,8])]) (Pt.fn rfl) (by simp [hcap]) ?_ rfl (by simp [hcap])
 rw [bMp]
 delta Tryz.f231;simp only [↓cw,↓reduceIte,Nat.reduceLT,kk]
 refine aF l (step:=cU p) (fin:=fun _=>-1) (fun i k vs S=>k=i∧vs=[.int .i64 0,.int .i64 (i:Int)]∧S.heap.get 0=some (.row 0 n [cap])) (fun r=>r=ixM p l) ?_ ?_ ⟨rfl,rfl,Tr.get_put_sameB _ _ _ trivial⟩ rfl
 ·rintro i s k vs S hi ⟨rfl,rfl,hg⟩ aE H
  have hil:=(List.getElem?_eq_some_iff.1 hi).1
  have he:=(hf s).eq_same hg
  simp only [Sess.enc] at he
  simp only [↓cw,↓reduceIte,Nat.reduceLT,kk,bL hi,lM hi,Sess.enc,↓aCy prog C ht,List.nil_append,List.cons_append,he,iE (show k<1000000000 by omega)]
  simp only [cU] at H
  cases hp:p s<;>simp only [↓cw,↓reduceIte,Nat.reduceLT,hp,kk] at H ⊢
  ·exact H _ _ ⟨rfl,hg⟩
  ·exact ⟨by rw [H],hg⟩
 ·rintro k vs S ⟨rfl,rfl,hg⟩ aE H
  simp only [↓cw,↓reduceIte,Nat.reduceLT,kk,Int.lt_irrefl]
  exact ⟨by rw [H],hg⟩
theorem bIw {f:FuncId} {args:List V} {S:St} {v:V} (h:C f args S fun v' S'=>v'=v∧S'=S) (K:KW):C f args S K=K v S:=by
 obtain ⟨v',S',ev,rfl,rfl⟩:=h
 exact aL6 ev K
theorem bIx (fk:Nat) (ht:dM prog fk=some none) {n:Nat} {cap:List V} (p:Ser→Bool) (hf:∀ s:Ser,Fr fk (fun a=>[.agg s.enc,.ptr a 0 0 0]) n cap (.bool (p s)) cap) (l:List Ser) (hb:l.length<1000000) {S:St} {a:Nat} (hg:S.heap.get a=some (.row 0 n [cap])):
  ∀ K:KW,C 152 [.imm (l.map Ser.enc),.func fk [] [.ptr a 0 0 0]] S K=K (.int .i64 (ixM p l)) S:=by
 refine bIw (bLe ?_)
 delta Tryz.f152;simp only [↓cw,↓reduceIte,Nat.reduceLT,kk]
 refine aF l (step:=cU p) (fin:=fun _=>-1) (fun i k vs X=>k=i∧vs=[.int .i64 0,.int .i64 (i:Int)]∧X=S) (fun r=>r=ixM p l) ?_ ?_ ⟨rfl,rfl,rfl⟩ rfl
 ·rintro i s k vs X hi ⟨rfl,rfl,rfl⟩ aE H
  have hil:=(List.getElem?_eq_some_iff.1 hi).1
  have he:=(hf s).eq_same hg
  simp only [Ser.enc] at he
  simp only [↓cw,↓reduceIte,Nat.reduceLT,kk,bL hi,lU hi,Ser.enc,↓aCy prog C ht,List.nil_append,List.cons_append,he,iE (show k<1000000000 by omega)]
  simp only [cU] at H
  cases hp:p s<;>simp only [↓cw,↓reduceIte,Nat.reduceLT,hp,kk] at H ⊢
  ·exact H _ _ ⟨rfl,rfl⟩
  ·rw [H]
 ·rintro k vs X ⟨rfl,rfl,rfl⟩ aE H
  simp only [↓cw,↓reduceIte,Nat.reduceLT,kk,Int.lt_irrefl]
  rw [H]
theorem bIy:dM prog 232=some none:=by kernel_rfl
theorem bOb (id:Int) (s:Sess):Fr 232 (fun a=>[.agg s.enc,.ptr a 0 0 0]) 1 [.int .i64 id] (.bool (decide (s.id=id))) [.int .i64 id]:=by
 refine FnR.of bEq (lv:=jL []) (Pt.next rfl (Pt.head rfl)) rfl ?_ rfl rfl
 rw [bMq]
 delta Tryz.f232;simp only [↓cw,↓reduceIte,Nat.reduceLT,kk,Sess.enc,iI]
 rfl
theorem f174 (l:List Sess) (id:Int) (hb:l.length<1000000):Fv 174 [.imm (l.map Sess.enc),.int .i64 id] (.int .i64 (gL l id)):=by
 refine bLt rfl ?_
 have h:=(bOa 232 bIy rfl _ (bOb id) l hb).eq_same (S:=⟨1,Tr.nil.put 0 (.row 0 1 [[.int .i64 id]])⟩) (a:=0) (Tr.get_put_sameB _ _ _ trivial)
 delta Tryz.f174;simp only [↓cw,↓reduceIte,Nat.reduceLT,kk,h,gL]
theorem bDk (l:List Sess) (id:Int) (hb:l.length<1000000) (S:St) (K:KW):C 174 [.imm (l.map Sess.enc),.int .i64 id] S K=K (.int .i64 (gL l id)) S:=(f174 l id hb).eq S K
theorem aY1 (l:List Sess) (S:St) (K:KW):C 166 [.imm (l.map Sess.enc)] S K=K (.bool (eO l)) S:=by
 refine (bLm rfl ?_).eq S K
 delta Tryz.f166;simp only [↓cw,↓reduceIte,Nat.reduceLT,kk,eO]
 by_cases h:8<l.length
 ·rw [if_pos (by omega),if_pos h]
 have h':¬ (8:Int)<(l.length:Int):=by omega
 simp only [↓cw,↓reduceIte,Nat.reduceLT,h,h',kk]
 refine aF l (step:=eN) (fin:=fun _=>true) (fun i s vs S=>vs=[.bool false,.int .i64 s,.int .i64 (i:Int)]) (fun r=>V.bool r=.bool (aD eN (fun _=>true) l 0)) ?_ ?_ rfl rfl
 ·rintro i s last vs S hi rfl aE H
  have hil:=(List.getElem?_eq_some_iff.1 hi).1
  have hn:((s.reply=Rep.zero):Prop)=((s.reply.why=0∧s.reply.number=0)∧s.reply.gross=0):=by
   obtain ⟨_,_,⟨_,_,_⟩⟩:=s;simp [Rep.zero,and_assoc]
  simp only [↓cw,↓reduceIte,Nat.reduceLT,eN,hn,kk] at H
  simp only [↓cw,↓reduceIte,Nat.reduceLT,kk,bL hi,lM hi,Sess.enc,iE (show i<1000000000 by omega)]
  grind
 ·rintro s vs S rfl aE H
  simp only [↓cw,↓reduceIte,Nat.reduceLT,kk,Int.lt_irrefl]
  exact H
end Go.Proofs.YtoaibmbldmckaaaGreat
end
section
namespace Go.AM
theorem bsl (n:Nat) (z:List V) (parts:List (Nat×V)) (fr:Option Nat) (S:St) (hn:n≤1000):bN n z 1 parts fr S=(match zA n [z] parts with
  | .error e=>.error e
  | .ok elems=>match aY fr S (.row 0 n elems) with
   | .error e=>.error e
   | .ok (a,S')=>.ok (.sl a 0 n 0 1,S')):=by
 unfold bN
 rw [if_pos (by omega)]
 rfl
theorem zS (z:List V) (parts:List (Nat×V)) (fr:Option Nat) (S:St):type_of% (bsl 1 z parts fr S (by decide)):=bsl 1 z parts fr S (by decide)
theorem aY2 (z:List V) (parts:List (Nat×V)) (fr:Option Nat) (S:St):type_of% (bsl 2 z parts fr S (by decide)):=bsl 2 z parts fr S (by decide)
theorem bDl (z:List V) (parts:List (Nat×V)) (fr:Option Nat) (S:St):type_of% (bsl 4 z parts fr S (by decide)):=bsl 4 z parts fr S (by decide)
theorem bIz (z:List V) (parts:List (Nat×V)) (fr:Option Nat) (S:St):type_of% (bsl 5 z parts fr S (by decide)):=bsl 5 z parts fr S (by decide)
theorem bJ0 (z:List V) (parts:List (Nat×V)) (fr:Option Nat) (S:St):type_of% (bsl 12 z parts fr S (by decide)):=bsl 12 z parts fr S (by decide)
theorem hM {n m k:Nat} {h:Tr Blk} {b:Blk} (w:WF ⟨n,h⟩) (h1:k<m) (h2:n≤m):WF ⟨m,h.put k b⟩:=by
 intro a c hc
 have hc':(h.put k b).get a=some c:=hc
 rw [Tr.get_putB _ _ _ _ trivial] at hc'
 split at hc'
 ·show a<m;omega
 ·have:=w a c hc';show a<m;have:a<n:=this;omega
theorem WF.bump {S:St} (w:WF S) (c:Nat):WF ⟨S.next+c,S.heap⟩:=fun a b h=>Nat.lt_of_lt_of_le (w a b h) (Nat.le_add_right _ _)
theorem yS {S:St} {a ver n:Nat} {el:List (List V)} (h:aA S a ver=.ok (n,el)):S.heap.get a=some (.row ver n el):=by
 unfold aA at h
 split at h
 ·rename_i v es els he
  rw [cond_eq_ite] at h
  split at h
  ·rename_i hv
   have:=Nat.eq_of_beq_eq_true hv
   cases h
   rw [he,this]
  ·cases h
 ·cases h
theorem aQ {S S':St} {a ver n:Nat} {el:List (List V)} (hg:aA S a ver=.ok (n,el)) (h:S'.heap.get a=S.heap.get a):aA S' a ver=.ok (n,el):=by
 rw [←hg];unfold aA;rw [h]
theorem bCf {P:Program} {T:TypeId} {n b:Nat} (hT:apT P T=some (n,b)) (hn:1<n) {S:St} {v:V} {es:List (List V)} (h:Own E0 S n v es) (w:WF S) {c:List V} (hc:c.length=n∧aH c=true) (h1:(es.length+1)*b≤35184372088832) (h2:es.length+1<dR) {i:Nat} (hi:i≤es.length):
  ∃ v' S',gP P T v (.int .i64 (i:Int)) (.sl S.next 0 n 0 1) ⟨S.next+1,S.heap.put S.next (.row 0 n [c])⟩=.ok (v',S')∧WF S'∧Own E0 S' n v' (es.take i++c::es.drop i)∧∀ y,y<S.next→(∀ a ver m,v=.sl a ver n 0 m→y≠a)→S'.heap.get y=S.heap.get y:=by
 have x:Ext S ⟨S.next+1,S.heap.put S.next (.row 0 n [c])⟩:=Ext.new w _
 obtain ⟨v',S',q1,q2,q3,q4⟩:=(h.ext x).insertK hT hn (aD8 (x.wf w)) nK (bx:=S.next) (c:=c) (aC _ _ _ _ _ _) (fun a ver m hv=>by
  rcases h.is with ⟨rfl,_⟩ | ⟨a',ver',tl,rfl,_,hlt,_⟩
  ·cases hv
  ·cases hv;omega) hc h1 h2 hi
 refine ⟨v',S',q1,q2.wf nK,q3,fun y hy hya=>?_⟩
 rw [q4 y (by show y<S.next+1;omega) hya]
 exact Tr.get_put_neB _ _ _ _ trivial (by omega)
theorem bJ1 {P:Program} {T:TypeId} {n b:Nat} (hT:apT P T=some (n,b)) (hn:1<n) {S:St} {v:V} {es:List (List V)} (h:Own E0 S n v es) (w:WF S) {c:List V} (hc:c.length=n∧aH c=true) (h1:(es.length+1)*b≤35184372088832) (h2:es.length+1<dR) {i:Nat} (hi:i≤es.length):
  ∃ v' S',gP P T v (.int .i64 (i:Int)) (.sl S.next 0 n 0 1) ⟨S.next+1,S.heap.put S.next (.row 0 n [c])⟩=.ok (v',S')∧WF S'∧Own E0 S' n v' (es.take i++c::es.drop i):=by
 obtain ⟨v',S',q1,q2,q3,_⟩:=bCf hT hn h w hc h1 h2 hi
 exact ⟨v',S',q1,q2,q3⟩
end Go.AM
namespace Go.Proofs.YtoaibmbldmckaaaGreat
open Go.AM Tryz
set_option linter.unusedVariables false
set_option linter.unusedSimpArgs false
set_option maxRecDepth 100000
theorem aUz {f:FuncId} {T:TypeId} (hpl:uL f=some (.spec ((Sp.ins T).run prog))) {s i x v:V} {S S':St} (h:gP prog T s i x S=.ok (v,S')) (K:KW):C f [s,i,x] S K=K v S':=aL8 hpl (args:=[s,i,x]) (show (Sp.ins T).run prog [s,i,x] S=.ok (v,S') from h) K
theorem bOc {f:FuncId} {T:TypeId} (hpl:uL f=some (.spec ((Sp.del T).run prog))) {s i x v:V} {S S':St} (h:pQ prog T s i x S=.ok (v,S')) (K:KW):C f [s,i,x] S K=K v S':=aL8 hpl (args:=[s,i,x]) (show (Sp.del T).run prog [s,i,x] S=.ok (v,S') from h) K
theorem bOd:apT prog 28=some (5,40):=by kernel_rfl
theorem bOe:apT prog 25=some (4,40):=by kernel_rfl
theorem bJ2:uL 230=some (.spec ((Sp.ins 28).run prog)):=by kernel_rfl
theorem bJ3:uL 234=some (.spec ((Sp.ins 25).run prog)):=by kernel_rfl
theorem bJ4:uL 240=some (.spec ((Sp.del 28).run prog)):=by kernel_rfl
theorem aJp (x:Sess):x.enc.length=5∧aH x.enc=true:=⟨rfl,rfl⟩
theorem aV0 (x:Ser):x.enc.length=4∧aH x.enc=true:=⟨rfl,rfl⟩
theorem bJ5 (l:List Sess) (id seq:Int) (S:St) (K:KW):C 105 [.imm (l.map Sess.enc),.int .i64 id,.int .i64 seq] S K=K (.tup [.agg [.int .i64 (cB l id seq).1.why,.int .i64 (cB l id seq).1.number,.int .i64 (cB l id seq).1.gross],.bool (cB l id seq).2.1,.int .i64 (cB l id seq).2.2]) S:=by
 refine (bKx rfl ?_).eq S K
 delta Tryz.f105;simp only [↓cw,↓reduceIte,Nat.reduceLT,kk,aY1]
 by_cases hr:eO l=true
 ·have hb:=kI hr
  simp only [↓cw,↓reduceIte,Nat.reduceLT,hr,kk,bDk l id (show l.length<1000000 by omega),cB,Bool.true_eq_false,if_false]
  rcases jM l id with h | ⟨i,s,h,h2,h3⟩
  ·simp only [↓cw,↓reduceIte,Nat.reduceLT,h,show (-1:Int)<0 by decide,kk,oo,Rep.zero,if_true]
  ·simp only [↓cw,↓reduceIte,Nat.reduceLT,h,show ¬ (i:Int)<0 by omega,kk,if_false,lM h2,Sess.enc,Int.toNat_natCast,h2]
   by_cases c1:seq<1
   ·simp only [↓cw,↓reduceIte,Nat.reduceLT,c1,kk,oo,Rep.zero,true_or,if_true]
   ·by_cases c2:1099511627776<seq
    ·simp only [↓cw,↓reduceIte,Nat.reduceLT,c1,c2,kk,oo,Rep.zero,or_true,if_true,if_false,decide_true]
    ·simp only [↓cw,↓reduceIte,Nat.reduceLT,c1,c2,kk,oo,or_self,if_false,decide_false]
     by_cases c3:seq=s.last
     ·simp only [↓cw,↓reduceIte,Nat.reduceLT,c3,kk,oo,if_true]
     ·by_cases c4:seq<s.last<;>simp only [↓cw,↓reduceIte,Nat.reduceLT,c3,c4,kk,oo,Rep.zero,if_true,if_false]
 ·have hr:eO l=false:=by simpa using hr
  simp only [↓cw,↓reduceIte,Nat.reduceLT,hr,kk,oo,cB,Rep.zero,if_true]
theorem bJ6 (l:List Sess) (n:Int) (S:St) (K:KW):C 173 [.imm (l.map Sess.enc),.int .i64 n] S K=K (.tup [.imm ((lT l n).1.map Sess.enc),.int .i64 (lT l n).2]) S:=by
 refine (bNg rfl ?_).eq S K
 simp only [aXl,aHn,kk,aY1]
 by_cases hr:eO l=true
 ·have hb:=kI hr
  simp only [hr,kk,bDk l n (show l.length<1000000 by omega),lT,Bool.true_eq_false,false_or]
  by_cases c1:n<1
  ·simp only [c1,kk,oo,if_true,List.map_nil]
  ·simp only [c1,kk,if_false]
   by_cases c2:0≤gL l n
   ·simp only [c2,kk,oo,if_true,List.map_nil]
   ·by_cases c3:8≤l.length
    ·simp only [c2,c3,show (8:Int)≤(l.length:Int) by omega,kk,oo,if_true,if_false,List.map_nil]
    ·simp only [c2,c3,show ¬ (8:Int)≤(l.length:Int) by omega,kk,if_false]
     have hj:∀ k:Nat,k=mX (fun s:Sess=>decide (s.id<n)) l→aBi C (fun v0 S0=>gK S0 v0=Except.ok (.tup [.imm ((eG l (mX (fun s:Sess=>decide (s.id<n)) l) ⟨n,0,Rep.zero⟩).map Sess.enc),.int .i64 0])) (.imm (l.map Sess.enc)) (.int .i64 n) (.int .i64 (k:Int)) ⟨0,.nil⟩:=by
      intro k hk
      obtain ⟨v,S1,q1,x1,own⟩:=aUy (b:=40) aJp l nK (by omega) (by unfold dR;omega)
      have w1:=x1.wf nK
      have hkl:k≤l.length:=by rw [hk];exact aBn _ _
      obtain ⟨v2,S2,q2,w2,own2⟩:=bJ1 bOd (by decide) own w1 (aJp ⟨n,0,Rep.zero⟩) (by simp;omega) (by simp [dR];omega) (i:=k) (by simpa using hkl)
      simp only [Sess.enc,Rep.zero] at q2
      simp only [aBi,kk,q1,bIz]
      rw [aUz bJ2 q2]
      rw [←pA] at own2
      simp only [oo,own2.frz (cR (fun _=>rfl) _),hk]
     refine aF l (step:=eP (fun s:Sess=>decide (s.id<n))) (fin:=id) (fun i k vs S=>k=i∧vs=[.int .i64 (i:Int)]∧S=⟨0,.nil⟩) (fun r=>r=mX (fun s:Sess=>decide (s.id<n)) l) ?_ ?_ ⟨rfl,rfl,rfl⟩ rfl
     ·rintro i s k vs S hi ⟨rfl,rfl,rfl⟩ aE H
      have hil:=(List.getElem?_eq_some_iff.1 hi).1
      simp only [eP] at H
      simp only [aHm,kk,bL hi,lM hi,Sess.enc,iE (show k<1000000000 by omega)]
      by_cases c:s.id<n<;>simp only [c,kk,if_true,if_false,decide_true,decide_false] at H ⊢
      ·exact H _ _ ⟨rfl,rfl⟩
      ·exact hj _ H
     ·rintro k vs S ⟨rfl,rfl,rfl⟩ aE H
      simp only [aHm,kk,Int.lt_irrefl]
      exact hj _ (by simpa using H)
 ·have hr:eO l=false:=by simpa using hr
  simp only [hr,kk,oo,lT,true_or,if_true,List.map_nil]
theorem bOf:iU prog 28=some 132:=by kernel_rfl
theorem bJ7:tM prog 132=some [.int .i64 0,.int .i64 0,.int .i64 0,.int .i64 0,.int .i64 0]:=by kernel_rfl
theorem bJ8:sz prog 132=5:=by kernel_rfl
theorem bOg (l:List Sess) (id:Int) (S:St) (K:KW):C 182 [.imm (l.map Sess.enc),.int .i64 id] S K=K (.tup [.imm ((gC l id).1.map Sess.enc),.int .i64 (gC l id).2]) S:=by
 refine (bM0 rfl ?_).eq S K
 delta Tryz.f182;simp only [↓cw,↓reduceIte,Nat.reduceLT,kk,aY1]
 by_cases hr:eO l=true
 ·have hb:=kI hr
  simp only [↓cw,↓reduceIte,Nat.reduceLT,hr,kk,bDk l id (show l.length<1000000 by omega),gC,Bool.true_eq_false]
  rcases jM l id with h | ⟨i,s,h,h2,h3⟩
  ·simp only [↓cw,↓reduceIte,Nat.reduceLT,h,show (-1:Int)<0 by decide,kk,oo,if_true,List.map_nil]
  ·have hil:=(List.getElem?_eq_some_iff.1 h2).1
   obtain ⟨v,S1,q1,x1,own⟩:=aUy (b:=40) aJp l nK (by omega) (by unfold dR;omega)
   obtain ⟨v2,S2,q2,x2,own2⟩:=own.delete bOf bJ7 bJ8 (aD8 (x1.wf nK)) nK (by simp [dR];omega) (i:=i) (by simpa using hil)
   rw [←aM4] at own2
   simp only [↓cw,↓reduceIte,Nat.reduceLT,h,show ¬ (i:Int)<0 by omega,kk,if_false,q1,mU (show -9223372036854775808≤(i:Int)+1 by omega) (show (i:Int)+1≤9223372036854775807 by omega),Int.toNat_natCast]
   rw [bOc bJ4 q2]
   simp only [oo,own2.frz (cR (fun _=>rfl) _)]
 ·have hr:eO l=false:=by simpa using hr
  simp only [↓cw,↓reduceIte,Nat.reduceLT,hr,kk,oo,gC,if_true,List.map_nil]
theorem bOh (l:List Sess) (id seq:Int) (r:Rep) (S:St) (K:KW):C 107 [.imm (l.map Sess.enc),.int .i64 id,.int .i64 seq,.agg [.int .i64 r.why,.int .i64 r.number,.int .i64 r.gross]] S K=K (.tup [.imm ((jZ l id seq r).1.map Sess.enc),.int .i64 (jZ l id seq r).2]) S:=by
 refine (bKz rfl ?_).eq S K
 delta Tryz.f107;simp only [↓cw,↓reduceIte,Nat.reduceLT,kk,bJ5,jZ]
 by_cases h0:(cB l id seq).2.2=0
 ·simp only [↓cw,↓reduceIte,Nat.reduceLT,h0,kk,not_true_eq_false,if_false]
  by_cases h1:(cB l id seq).2.1=true
  ·simp only [↓cw,↓reduceIte,Nat.reduceLT,h1,kk,oo,if_true,List.map_nil]
  ·obtain ⟨hr,i,s,h2,h3⟩:=aD2 h0
   have hb:=kI hr
   have hil:=(List.getElem?_eq_some_iff.1 h3).1
   simp only [↓cw,↓reduceIte,Nat.reduceLT,h1,kk,if_false,h2,Int.toNat_natCast,h3]
   obtain ⟨S0,hS0⟩:∃ S0:St,S0=⟨1+1,((Tr.nil.put 0 (Blk.row 0 (1+1+1) [[V.int .i64 r.why,.int .i64 r.number,.int .i64 r.gross]])).put 1 (Blk.row 0 3 [[V.int .i64 0,.int .i64 0,.int .i64 0]])).put 1 (Blk.row 0 3 [[V.int .i64 (cB l id seq).1.why,.int .i64 (cB l id seq).1.number,.int .i64 (cB l id seq).1.gross]])⟩:=⟨_,rfl⟩
   have w0:WF S0:=by rw [hS0];exact hM (n:=2) (hM (n:=1) (m:=2) (hM (m:=1) nK (by decide) (by decide)) (by decide) (by decide)) (by decide) (by decide)
   have hg0:aA S0 0 0=.ok (3,[r.enc]):=by rw [hS0];rfl
   rw [←hS0]
   obtain ⟨v,S1,q1,x1,own⟩:=aOm (b:=40) aJp l w0 (by omega) (by unfold dR;omega)
   have w1:=x1.wf w0
   have xb:Ext S0 ⟨S1.next+12,S1.heap⟩:=x1.bump 12
   have own':=own.ext ((Ext.refl S1).bump 12)
   have hg1:aA ⟨S1.next+12,S1.heap⟩ 0 0=.ok (3,[r.enc]):=x1.row hg0
   have hb1:S0.next=2:=by rw [hS0]
   obtain ⟨a,ver,e1,e2,e3,e4,_,set1⟩:=own'.setK xb w0 (i:=i) (cs:=s.enc) (by simp [h3]) .i64
   obtain ⟨S2,st1,x2,n2,own2,keep2,w2⟩:=set1 1 1 (.int .i64 seq) rfl rfl (by decide)
   obtain ⟨a',ver',e1',_,_,e4',_,set2⟩:=own2.setK x2 w0 (i:=i) (cs:=splice s.enc 1 [.int .i64 seq]) (by rw [List.getElem?_set_self (by simpa using hil)];rfl) .i64
   obtain ⟨rfl,rfl⟩:a'=a∧ver'=ver:=by rw [e1] at e1';injection e1' with h1 h2;exact ⟨h1.symm,h2.symm⟩
   obtain ⟨S3,nY,_,n3,own3,keep3,w3⟩:=set2 2 3 (.agg r.enc) rfl rfl (by decide)
   have hg2:=aQ hg1 (keep2 0 (by omega))
   simp only [Rep.enc] at hg1 hg2 nY
   have hfz:frzVs kO (lY (iZ S1 3) S1) [v,.int .i64 id]=.ok [.imm (l.map Sess.enc),.int .i64 id]:=by
    simp only [frzVs,own.frz (cR (fun _=>rfl) _),cM]
   simp only [↓cw,↓reduceIte,Nat.reduceLT,q1,kk]
   rw [show C 174 [v,.int .i64 id] S1 _=_ from (f174 l id (by omega)).frz bEl rfl hfz (by simp [ptrsVs,own.ptrs,uM]) (.inl rfl) _]
   have e5:(0:Nat)≠a':=by omega
   have hfin:((l.map Sess.enc).set i (splice s.enc 1 [.int .i64 seq])).set i (splice (splice s.enc 1 [.int .i64 seq]) 2 r.enc)=(l.set i ⟨s.id,seq,r⟩).map Sess.enc:=by
    rw [List.set_set,List.map_set];rfl
   simp only [V.cells] at own3
   rw [hfin] at own3
   have e4'':gS 5 v (.int .i64 (i:Int))=.ok (.ptr a' ver' i 0):=e4
   simp only [↓cw,↓reduceIte,Nat.reduceLT,h2,e4'',kk,hg1,hg2,st1,nY,oo,own3.frz (cR (fun _=>rfl) _)]
 ·simp only [↓cw,↓reduceIte,Nat.reduceLT,h0,kk,oo,if_true,not_false_eq_true,List.map_nil]
end Go.Proofs.YtoaibmbldmckaaaGreat
end
section
namespace Go.Proofs.YtoaibmbldmckaaaGreat
open Go.AM Tryz
theorem g86 (l:List Ser) (S:St) (K:KW):C 86 [.imm (l.map Ser.enc)] S K=K (.bool (kK l)) S:=by
 refine (v86 rfl ?_).eq S K
 delta Tryz.f86;simp only [↓cw,↓reduceIte,Nat.reduceLT,kk,kK]
 by_cases h:8<l.length
 ·rw [if_pos (by omega),if_pos h]
 have h':¬ (8:Int)<(l.length:Int):=by omega
 simp only [↓cw,↓reduceIte,Nat.reduceLT,h,h',kk]
 refine aF l (step:=jN) (fin:=fun _=>true) (fun i s vs S=>s=bX l i∧vs=[.bool false,.int .i64 (i:Int)]) (fun r=>V.bool r=.bool (aD jN (fun _=>true) l none)) ?_ ?_ ⟨rfl,rfl⟩ rfl
 ·rintro i r s vs S hi ⟨rfl,rfl⟩ aE H
  have hil:=(List.getElem?_eq_some_iff.1 hi).1
  have hn:bX l (i+1)=some r:=by simpa [bX] using hi
  simp only [hn,jN] at H
  simp only [↓cw,↓reduceIte,Nat.reduceLT,kk,bL hi,lU hi,Ser.enc,aUx,iE (show i<1000000000 by omega)]
  cases hna:cW r.name
  ·simp [hna] at H ⊢;exact H
  ·simp only [↓cw,↓reduceIte,Nat.reduceLT,hna,kk,Bool.true_eq_false,if_false] at H ⊢
   cases i with
   | zero=>
    simp only [↓cw,↓reduceIte,Nat.reduceLT,bX,lB,kk,Bool.false_eq_true,if_false,if_true,kJ,Bool.or_eq_true,decide_eq_true_eq] at H ⊢
    simp only [↓cw,↓reduceIte,Nat.reduceLT,Int.natCast_zero,Int.lt_irrefl,kk,if_false]
    grind
   | succ j=>
    have hj:l[j]?=some l[j]:=List.getElem?_eq_getElem (by omega)
    have hp:bX l (j+1)=some l[j]:=by simp [bX,hj]
    simp only [↓cw,↓reduceIte,Nat.reduceLT,hp,gt0,kk,wrm (show j+1<1000000000 by omega),lU hj,Ser.enc,lB,kJ,Bool.or_eq_true,decide_eq_true_eq] at H ⊢
    grind
 ·rintro s vs S ⟨rfl,rfl⟩ aE H
  simp only [↓cw,↓reduceIte,Nat.reduceLT,kk,Int.lt_irrefl]
  exact H
theorem bJ9:dM prog 263=some none:=by kernel_rfl
theorem bOj (name:List UInt8) (s:Ser):Fr 263 (fun a=>[.agg s.enc,.ptr a 0 0 0]) 1 [.str name] (.bool (s.name == name)) [.str name]:=by
 refine FnR.of bEs (lv:=jL []) (Pt.next rfl (Pt.head rfl)) rfl ?_ rfl rfl
 rw [bN2]
 delta Tryz.f263;simp only [↓cw,↓reduceIte,Nat.reduceLT,kk,Ser.enc,iI]
 rfl
theorem f233 (l:List Ser) (name:List UInt8) (hb:l.length<1000000):Fv 233 [.imm (l.map Ser.enc),.str name] (.int .i64 (dE l name)):=by
 refine bMr rfl ?_
 have h:=bIx 263 bJ9 _ (bOj name) l hb (S:=⟨1,Tr.nil.put 0 (.row 0 1 [[.str name]])⟩) (a:=0) (Tr.get_put_sameB _ _ _ trivial)
 delta Tryz.f233;simp only [↓cw,↓reduceIte,Nat.reduceLT,kk,h,dE]
theorem bDm (l:List Ser) (name:List UInt8) (hb:l.length<1000000) (S:St) (K:KW):C 233 [.imm (l.map Ser.enc),.str name] S K=K (.int .i64 (dE l name)) S:=(f233 l name hb).eq S K
theorem bOk (l:List Ser) (name:List UInt8) (hb:l.length<1000000) (S:St) (K:KW):C 241 [.imm (l.map Ser.enc),.str name] S K=K (.tup [.agg [.str (kP l name).1.name,.int .i64 (kP l name).1.next,.int .i64 (kP l name).1.limit,.bool (kP l name).1.shut],.bool (kP l name).2]) S:=by
 refine (bMw rfl ?_).eq S K
 delta Tryz.f241;simp only [↓cw,↓reduceIte,Nat.reduceLT,kk,bDm l name hb,kP]
 rcases lA l name with h | ⟨i,s,h,h2,h3⟩
 ·simp only [↓cw,↓reduceIte,Nat.reduceLT,h,show (-1:Int)<0 by decide,kk,oo,Ser.zero,if_true]
 ·simp only [↓cw,↓reduceIte,Nat.reduceLT,h,show ¬ (i:Int)<0 by omega,kk,if_false,lU h2,Ser.enc,Int.toNat_natCast,h2,oo]
theorem bJa (l:List Ser) (name:List UInt8) (S:St) (K:KW):C 236 [.imm (l.map Ser.enc),.str name] S K=K (dF (iK l name)) S:=by
 refine (bMt rfl ?_).eq S K
 delta Tryz.f236;simp only [↓cw,↓reduceIte,Nat.reduceLT,kk,g86,iK,dF]
 by_cases hr:kK l=true
 ·have hb:=mY hr
  simp only [↓cw,↓reduceIte,Nat.reduceLT,hr,kk,bDm l name (show l.length<1000000 by omega),Bool.true_eq_false,if_false]
  rcases lA l name with h | ⟨i,s,h,h2,h3⟩
  ·simp only [↓cw,↓reduceIte,Nat.reduceLT,h,show (-1:Int)<0 by decide,kk,oo,if_true]
  ·simp only [↓cw,↓reduceIte,Nat.reduceLT,h,show ¬ (i:Int)<0 by omega,kk,if_false,lU h2,Ser.enc,Int.toNat_natCast,h2,oo]
   cases s.shut<;>simp
 ·have hr:kK l=false:=by simpa using hr
  simp only [↓cw,↓reduceIte,Nat.reduceLT,hr,kk,oo,if_true]
theorem bDn (l:List Ser) (hb:l.length<1000000) {S:St} (w:WF S) {K:KW} (k:∀ v S',Ext S S'→Own S S' 4 v (l.map Ser.enc)→K v S'):C 235 [.imm (l.map Ser.enc)] S K:=by
 refine bMs rfl ?_
 delta Tryz.f235;simp only [↓cw,↓reduceIte,Nat.reduceLT,kk]
 cases l with
 | nil=>
  exact k .nils ⟨S.next+0,S.heap⟩ ⟨fun a b h=>h,Nat.le_refl _,fun w=>w⟩ (Own.nil _ _ _)
 | cons x l=>
  obtain ⟨v,S1,q1,x1,own⟩:=aOm (b:=40) aV0 (x::l) nK (by omega) (by unfold dR;omega)
  have q2:eE 4 40 .nils (.imm ((x::l).map Ser.enc)) none E0=.ok (.sl 0 0 4 0 (l.length+1),⟨1,Tr.nil.put 0 (.row 0 4 ((x::l).map Ser.enc))⟩):=by
   have a1:iQ 4 ((x::l).map Ser.enc)=true∧((x::l).map Ser.enc).all aH=true:=cY (fun c hc=>by obtain ⟨y,_,rfl⟩:=List.mem_map.1 hc;exact aV0 y)
   simp only [eE,aO]
   rw [if_pos a1]
   simp only [List.map_cons]
   have hb2:l.length+1<1000000:=hb
   simp only [List.length_cons,List.length_map,eL]
   rw [if_pos (by unfold dR;omega)]
  rw [q2]
  simp only [↓cw,↓reduceIte,Nat.reduceLT,kk]
  have hc:((x::l).map Ser.enc).all cloVs=true:=cR (fun _=>rfl) _
  have ho:sN [0] (.sl 0 0 4 0 (l.length+1)) ⟨1,Tr.nil.put 0 (.row 0 4 ((x::l).map Ser.enc))⟩ S=.ok (.sl S.next 0 4 0 (l.length+1),⟨S.next+1,S.heap.put S.next (.row 0 4 ((x::l).map Ser.enc))⟩):=by
   have hg:(Tr.nil.put 0 (Blk.row 0 4 ((x::l).map Ser.enc))).get 0=some (.row 0 4 ((x::l).map Ser.enc)):=Tr.get_put_sameB _ _ _ trivial
   obtain ⟨z1,z2⟩:=mV (S:=⟨1,Tr.nil.put 0 (.row 0 4 ((x::l).map Ser.enc))⟩) (n:=2) hc
   simp only [List.map_cons] at hg z1 z2
   simp only [sN,V.cells,aAy,gQ,Nat.beq_refl,Bool.true_or,cond_true,jA,hg,z1,pW,vE,dH,z2,tO,pV,aEu,hg,z1,z2,Nat.zero_add,List.append_nil,List.any_nil,List.length_cons,List.length_nil,Nat.zero_add,Bool.not_false,Bool.and_self,List.nil_append,List.map_cons]
  rw [ho]
  simp only [↓cw,↓reduceIte,Nat.reduceLT,kk]
  refine k _ _ (Ext.new w _) ⟨.inr ⟨S.next,0,[],by simp,Nat.le_refl _,Nat.lt_succ_self _,?_⟩,fun c hc=>by obtain ⟨y,_,rfl⟩:=List.mem_map.1 hc;exact aV0 y⟩
  rw [List.append_nil];exact Tr.get_put_sameB _ _ _ trivial
theorem bOl (l:List Ser) (name:List UInt8) (limit:Int) (S:St) (K:KW):C 175 [.imm (l.map Ser.enc),.str name,.int .i64 limit] S K=K (.tup [.imm ((eZ l name limit).1.map Ser.enc),.int .i64 (eZ l name limit).2]) S:=by
 refine (bNi rfl ?_).eq S K
 simp only [aXn,aHp,kk,g86,aUx]
 by_cases hr:kK l=true
 ·have hb:=mY hr
  simp only [hr,kk,bDm l name (show l.length<1000000 by omega),eZ,Bool.true_eq_false,if_false]
  by_cases hn:cW name=true
  ·simp only [hn,kk,Bool.true_eq_false,if_false]
   by_cases c1:limit<1
   ·simp only [c1,kk,oo,if_true,List.map_nil,true_or]
   ·by_cases c2:1099511627776<limit
    ·simp only [c1,c2,kk,oo,if_true,if_false,List.map_nil,or_true,decide_true]
    ·simp only [c1,c2,kk,if_false,or_self,decide_false]
     by_cases c3:0≤dE l name
     ·simp only [c3,kk,oo,if_true,List.map_nil]
     ·by_cases c4:8≤l.length
      ·simp only [c3,c4,show (8:Int)≤(l.length:Int) by omega,kk,oo,if_true,if_false,List.map_nil]
      ·simp only [c3,c4,show ¬ (8:Int)≤(l.length:Int) by omega,kk,if_false]
       have hj:∀ k:Nat,k=mX (fun s:Ser=>fN s.name name) l→aBj C (fun v0 S0=>gK S0 v0=Except.ok (.tup [.imm ((eG l (mX (fun s:Ser=>fN s.name name) l) ⟨name,1,limit,false⟩).map Ser.enc),.int .i64 0])) (.imm (l.map Ser.enc)) (.str name) (.int .i64 limit) (.int .i64 (k:Int)) ⟨0,.nil⟩:=by
        intro k hk
        simp only [aBj]
        refine bDn l (by omega) nK fun v S1 x1 own=>?_
        have w1:=x1.wf nK
        have hkl:k≤l.length:=by rw [hk];exact aBn _ _
        obtain ⟨v2,S2,q2,w2,own2⟩:=bJ1 bOe (by decide) own w1 (aV0 ⟨name,1,limit,false⟩) (by simp;omega) (by simp [dR];omega) (i:=k) (by simpa using hkl)
        simp only [Ser.enc] at q2
        simp only [kk,bDl]
        rw [aUz bJ3 q2]
        rw [←pA] at own2
        simp only [oo,own2.frz (cR (fun _=>rfl) _),hk]
       refine aF l (step:=eP (fun s:Ser=>fN s.name name)) (fin:=id) (fun i k vs S=>k=i∧vs=[.int .i64 (i:Int)]∧S=⟨0,.nil⟩) (fun r=>r=mX (fun s:Ser=>fN s.name name) l) ?_ ?_ ⟨rfl,rfl,rfl⟩ rfl
       ·rintro i s k vs S hi ⟨rfl,rfl,rfl⟩ aE H
        have hil:=(List.getElem?_eq_some_iff.1 hi).1
        simp only [eP] at H
        simp only [aHo,kk,bL hi,lU hi,Ser.enc,iE (show k<1000000000 by omega)]
        cases c:fN s.name name<;>simp only [c,kk,if_true,if_false,Bool.false_eq_true] at H ⊢
        ·exact hj _ H
        ·exact H _ _ ⟨rfl,rfl⟩
       ·rintro k vs S ⟨rfl,rfl,rfl⟩ aE H
        simp only [aHo,kk,Int.lt_irrefl]
        exact hj _ (by simpa using H)
  ·have hn:cW name=false:=by simpa using hn
   simp only [hn,kk,oo,if_true,List.map_nil]
 ·have hr:kK l=false:=by simpa using hr
  simp only [hr,kk,oo,eZ,if_true,List.map_nil]
theorem bOm (l:List Ser) (name:List UInt8) (S:St) (K:KW):C 177 [.imm (l.map Ser.enc),.str name] S K=K (.tup [.imm ((pB l name).1.map Ser.enc),.int .i64 (pB l name).2]) S:=by
 refine (bLv rfl ?_).eq S K
 delta Tryz.f177;simp only [↓cw,↓reduceIte,Nat.reduceLT,kk,bJa,dF,pB]
 by_cases h0:(iK l name).2=0
 ·obtain ⟨hr,i,s,h1,_,h2,h3,_⟩:=yK h0
  have hb:=mY hr
  have hil:=(List.getElem?_eq_some_iff.1 h2).1
  have e1:(iK l name).1=(i:Int):=by rw [h1]
  simp only [↓cw,↓reduceIte,Nat.reduceLT,h0,kk,not_true_eq_false,if_false]
  refine bDn l (by omega) nK fun v S1 x1 own=>?_
  obtain ⟨a,ver,_,_,_,e4,_,set1⟩:=own.setK x1 nK (i:=i) (cs:=s.enc) (by simp [h2]) .i64
  obtain ⟨S2,st1,x2,n2,own2,keep2,w2⟩:=set1 3 1 (.bool true) rfl rfl (by decide)
  have hfin:(l.map Ser.enc).set i (splice s.enc 3 [.bool true])=(l.set i { s with shut:=true }).map Ser.enc:=by rw [List.map_set];rfl
  simp only [V.cells] at own2
  rw [hfin] at own2
  simp only [↓cw,↓reduceIte,Nat.reduceLT,e1,e4,kk,st1,oo,own2.frz (cR (fun _=>rfl) _),Int.toNat_natCast,h2]
 ·simp only [↓cw,↓reduceIte,Nat.reduceLT,h0,kk,oo,if_true,not_false_eq_true,List.map_nil]
theorem bOn (l:List Ser) (name:List UInt8) (S:St) (K:KW):C 271 [.imm (l.map Ser.enc),.str name] S K=K (.tup [.imm ((cJ l name).1.map Ser.enc),.int .i64 (cJ l name).2.1,.int .i64 (cJ l name).2.2]) S:=by
 refine (bN4 rfl ?_).eq S K
 delta Tryz.f271;simp only [↓cw,↓reduceIte,Nat.reduceLT,kk,bJa,dF,cJ]
 by_cases h0:(iK l name).2=0
 ·obtain ⟨hr,i,s,h1,_,h2,h3,_⟩:=yK h0
  have hb:=mY hr
  have hil:=(List.getElem?_eq_some_iff.1 h2).1
  have e1:(iK l name).1=(i:Int):=by rw [h1]
  simp only [↓cw,↓reduceIte,Nat.reduceLT,h0,kk,not_true_eq_false,if_false,e1,lU h2,Ser.enc,Int.toNat_natCast,h2]
  by_cases c:s.limit<s.next
  ·simp only [↓cw,↓reduceIte,Nat.reduceLT,c,kk,oo,if_true,List.map_nil]
  ·simp only [↓cw,↓reduceIte,Nat.reduceLT,c,kk,if_false]
   refine bDn l (by omega) nK fun v S1 x1 own=>?_
   obtain ⟨a,ver,_,_,_,e4,hat,set1⟩:=own.setK x1 nK (i:=i) (cs:=s.enc) (by simp [h2]) .i64
   obtain ⟨S2,st1,x2,n2,own2,keep2,w2⟩:=set1 1 1 (.int .i64 (wr .i64 (s.next+1))) rfl rfl (by decide)
   have hld:=hat.load none 1
   have hfin:(l.map Ser.enc).set i (splice s.enc 1 [.int .i64 (wr .i64 (s.next+1))])=(l.set i { s with next:=wr .i64 (s.next+1) }).map Ser.enc:=by rw [List.map_set];rfl
   simp only [V.cells] at own2
   rw [hfin] at own2
   simp only [↓cw,↓reduceIte,Nat.reduceLT,adv,kk] at hld
   simp only [↓cw,↓reduceIte,Nat.reduceLT,e4,kk,hld,Ser.enc,st1,oo,own2.frz (cR (fun _=>rfl) _)]
 ·simp only [↓cw,↓reduceIte,Nat.reduceLT,h0,kk,oo,if_true,not_false_eq_true,List.map_nil]
theorem zne {S:St} (h:0<S.next):((0:Nat)=S.next)=False:=by simp;omega
theorem bOo (l:List Rate) (cat:List UInt8) (d:Date) (S:St) (K:KW):C 278 [.imm (l.map Rate.enc),.str cat,.agg [.int .i64 d.y,.int .i64 d.m,.int .i64 d.d]] S K=K (.tup [.int .i64 (iL l cat d).1,.bool (iL l cat d).2]) S:=by
 refine (bN5 rfl ?_).eq S K
 delta Tryz.f278;simp only [↓cw,↓reduceIte,Nat.reduceLT,kk,g85,aJn,iL]
 by_cases hr:dW l=true
 ·have hb:=vU hr
  simp only [↓cw,↓reduceIte,Nat.reduceLT,hr,kk,Bool.true_eq_false,if_false]
  cases hd:d.right
  ·simp only [↓cw,↓reduceIte,Nat.reduceLT,hd,kk,oo,if_true]
  simp only [↓cw,↓reduceIte,Nat.reduceLT,hd,kk,Bool.true_eq_false,if_false]
  refine aF l (step:=jO cat d) (fin:=id) (fun i s vs S=>vs=[.int .i64 s.1,.bool s.2,.int .i64 (i:Int)]∧aA S 0 0=.ok (3,[d.enc])∧0<S.next) (fun r=>r=aD (jO cat d) id l (0,false)) ?_ ?_ (s:=(0,false)) ⟨rfl,by simp only [↓cw,↓reduceIte,Nat.reduceLT,kk];rfl,Nat.zero_lt_one⟩ rfl
  ·rintro i r ⟨bp,ok⟩ vs S hi ⟨rfl,hg,h0⟩ aE H
   have hil:=(List.getElem?_eq_some_iff.1 hi).1
   simp only [jO] at H
   simp only [↓cw,↓reduceIte,Nat.reduceLT,kk,bL hi,oL hi,Rate.enc,iE (show i<1000000000 by omega),iI,zne h0,gm,hg,Date.enc,aXy]
   have hg':∀ b b':Blk,aA ⟨S.next+1,(S.heap.put S.next b).put S.next b'⟩ 0 0=.ok (3,[d.enc]):=fun b b'=>by simp only [↓cw,↓reduceIte,Nat.reduceLT,iI,kk,zne h0,gm,hg]
   cases c1:(r.cat == cat)<;>simp only [↓cw,↓reduceIte,Nat.reduceLT,c1,kk,Bool.false_eq_true,false_and,if_false,true_and] at H ⊢
   ·exact H _ _ ⟨rfl,hg' _ _,Nat.succ_pos _⟩
   ·cases c2:d.before r.day<;>simp only [↓cw,↓reduceIte,Nat.reduceLT,c2,kk,if_true,if_false,Bool.true_eq_false] at H ⊢<;>exact H _ _ ⟨rfl,hg' _ _,Nat.succ_pos _⟩
  ·rintro ⟨bp,ok⟩ vs S ⟨rfl,hg,h0⟩ aE H
   have H:(bp,ok)=aD (jO cat d) id l (0,false):=H
   simp only [↓cw,↓reduceIte,Nat.reduceLT,kk,Int.lt_irrefl,oo,←H]
 ·have hr:dW l=false:=by simpa using hr
  simp only [↓cw,↓reduceIte,Nat.reduceLT,hr,kk,oo,if_true]
theorem bOp:apT prog 24=some (5,48):=by kernel_rfl
theorem bJb:uL 237=some (.spec ((Sp.ins 24).run prog)):=by kernel_rfl
theorem bCg (x:Rate):x.enc.length=5∧aH x.enc=true:=⟨rfl,rfl⟩
theorem Date.ext_iff (a b:Date):(a=b)=((a.y=b.y∧a.m=b.m)∧a.d=b.d):=by
 obtain ⟨_,_,_⟩:=a;obtain ⟨_,_,_⟩:=b;simp [and_assoc]
theorem aY3 {P:Program} {T:TypeId} {α:Type} {enc:α→List V} {n b:Nat} (hT:apT P T=some (n,b)) (hn:1<n) (hl:∀ x,(enc x).length=n∧aH (enc x)=true) (l:List α) {S:St} (w:WF S) {ka kb m:Nat} (hk:S.next≤ka) (hm:ka<m) (hkb:S.next≤kb) (hmb:kb<m) (hne:ka≠kb)
  (h1:(l.length+1)*b≤35184372088832) (h2:l.length+1<dR) (x:α) {i:Nat} (hi:i≤l.length):
  ∃ v S1 v' S',eE n b .nils (.imm (l.map enc)) (some ka) ⟨m,S.heap⟩=.ok (v,S1)∧(∀ y,y<S.next→S1.heap.get y=S.heap.get y)∧gP P T v (.int .i64 (i:Int)) (.sl kb 0 n 0 1) ⟨S1.next,S1.heap.put kb (.row 0 n [enc x])⟩=.ok (v',S')∧Own E0 S' n v' ((eG l i x).map enc):=by
 have hx:Ext S ⟨m,S.heap⟩:=⟨fun a b h=>h,by show S.next≤m;omega,fun w a b h=>by have:=w a b h;show a<m;omega⟩
 have hnone:∀ k,S.next≤k→S.heap.get k=none:=by
  intro k hk
  cases hq:S.heap.get k with
  | none=>rfl
  | some b=>have:=w k b hq;omega
 have hc:∀ cs,cs∈l.map enc→cs.length=n∧aH cs=true:=fun cs hc=>by obtain ⟨x,_,rfl⟩:=List.mem_map.1 hc;exact hl x
 obtain ⟨a1,a2⟩:=cY hc
 have hwm:WF ⟨m,S.heap⟩:=hx.wf w
 have key:∃ v S1,eE n b .nils (.imm (l.map enc)) (some ka) ⟨m,S.heap⟩=.ok (v,S1)∧WF S1∧S1.next=m∧(∀ y,y<S.next→S1.heap.get y=S.heap.get y)∧S1.heap.get kb=none∧(∀ a ver k,v=.sl a ver n 0 k→a=ka)∧Own E0 S1 n v (l.map enc):=by
  cases l with
  | nil=>exact ⟨.nils,⟨m,S.heap⟩,rfl,hwm,rfl,fun _ _=>rfl,hnone kb hkb,(fun _ _ _ h=>by cases h),Own.nil _ _ _⟩
  | cons y l=>
   refine ⟨.sl ka 0 n 0 (l.length+1),⟨m,S.heap.put ka (.row 0 n ((y::l).map enc))⟩,?_,hM hwm hm (Nat.le_refl _),rfl,fun z hz=>Tr.get_put_neB _ _ _ _ trivial (by omega),?_,fun _ _ _ h=>(by cases h;rfl),⟨.inr ⟨ka,0,[],by simp,Nat.zero_le _,hm,?_⟩,hc⟩⟩
   ·simp only [eE,aO]
    rw [if_pos ⟨a1,a2⟩]
    simp only [List.map_cons,List.length_cons,List.length_map,tP] at h1 h2 ⊢
    have hb2:(l.length+1)*b≤(l.length+1+1)*b:=Nat.mul_le_mul_right _ (by omega)
    rw [if_pos ⟨by omega,by omega⟩]
   ·rw [Tr.get_put_neB _ _ _ _ trivial (Ne.symm hne)];exact hnone kb hkb
   ·rw [List.append_nil];exact Tr.get_put_sameB _ _ _ trivial
 obtain ⟨v,S1,q1,w1,n1,q2,q3,q4,own⟩:=key
 have x1:Ext S1 ⟨S1.next,S1.heap.put kb (.row 0 n [enc x])⟩:=⟨fun a c hc=>by
  show (S1.heap.put kb _).get a=some c
  rw [Tr.get_put_neB _ _ _ _ trivial (fun e=>by rw [e,q3] at hc;cases hc)];exact hc,Nat.le_refl _,fun w=>hM w (by omega) (Nat.le_refl _)⟩
 obtain ⟨v',S',p1,_,p3⟩:=(own.ext x1).insert hT hn (aD8 (x1.wf w1)) nK (bx:=kb) (c:=enc x) (aC _ _ _ _ _ _) (fun a ver k hv=>by rw [q4 a ver k hv];exact hne) (hl x) (by simpa using h1) (by simpa using h2) (i:=i) (by simpa using hi)
 rw [←pA] at p3
 exact ⟨v,S1,v',S',q1,q2,p1,p3⟩
theorem bOq (l:List Rate) (r:Rate) (S:St) (K:KW):C 178 [.imm (l.map Rate.enc),.agg [.str r.cat,.int .i64 r.day.y,.int .i64 r.day.m,.int .i64 r.day.d,.int .i64 r.bp]] S K=K (.tup [.imm ((gW l r).1.map Rate.enc),.int .i64 (gW l r).2]) S:=by
 refine (bLw rfl ?_).eq S K
 delta Tryz.f178;simp only [↓cw,↓reduceIte,Nat.reduceLT,kk,g85,gW]
 by_cases hr:dW l=true
 ·have hb:=vU hr
  simp only [↓cw,↓reduceIte,Nat.reduceLT,hr,kk,Bool.true_eq_false,if_false,bIu]
  by_cases h0:rS r=0
  ·simp only [↓cw,↓reduceIte,Nat.reduceLT,h0,kk,not_true_eq_false,if_false]
   refine aF l (step:=kQ r) (fin:=some) (fun i k vs S=>vs=[.nils,.int .i64 0,.int .i64 (k:Int),.int .i64 (i:Int)]∧aA S 0 0=.ok (5,[r.enc])∧0<S.next∧WF S∧k≤i) (fun q=>q=aD (kQ r) some l 0) ?_ ?_ (s:=0) ⟨rfl,by simp only [↓cw,↓reduceIte,Nat.reduceLT,kk];rfl,Nat.zero_lt_one,hM nK (by decide) (by decide),Nat.le_refl _⟩ rfl
   ·rintro i x k vs S hi ⟨rfl,hg,hp,w,hki⟩ aE H
    have hil:=(List.getElem?_eq_some_iff.1 hi).1
    simp only [↓cw,↓reduceIte,Nat.reduceLT,kQ,Date.ext_iff,kk] at H
    have hg':∀ b b':Blk,aA ⟨S.next+1,(S.heap.put S.next b).put S.next b'⟩ 0 0=.ok (5,[r.enc]):=fun b b'=>by simp only [↓cw,↓reduceIte,Nat.reduceLT,iI,kk,zne hp,gm,hg]
    have hw':∀ b b':Blk,WF ⟨S.next+1,(S.heap.put S.next b).put S.next b'⟩:=fun b b'=>hM (hM w (Nat.lt_succ_self _) (Nat.le_succ _)) (Nat.lt_succ_self _) (Nat.le_refl _)
    simp only [↓cw,↓reduceIte,Nat.reduceLT,kk,bL hi,oL hi,Rate.enc,iE (show i<1000000000 by omega),iE (show k<1000000000 by omega),iI,zne hp,gm,hg,bIv]
    cases c1:(x.cat == r.cat)<;>simp only [↓cw,↓reduceIte,Nat.reduceLT,c1,kk,Bool.false_eq_true,false_and,if_false,true_and,Bool.and_eq_true,decide_eq_true_eq] at H ⊢
    ·cases c3:eH x r<;>simp only [↓cw,↓reduceIte,Nat.reduceLT,c3,kk,if_true,if_false,Bool.false_eq_true] at H ⊢<;>exact H _ _ ⟨rfl,hg' _ _,Nat.succ_pos _,hw' _ _,by omega⟩
    ·by_cases c2:(x.day.y=r.day.y∧x.day.m=r.day.m)∧x.day.d=r.day.d<;>simp only [↓cw,↓reduceIte,Nat.reduceLT,c2,kk,if_true,if_false] at H ⊢
     ·have H':aD (kQ r) some l 0=none:=H.symm
      simp only [oo,H',List.map_nil]
     ·cases c3:eH x r<;>simp only [↓cw,↓reduceIte,Nat.reduceLT,c3,kk,if_true,if_false,Bool.false_eq_true] at H ⊢<;>exact H _ _ ⟨rfl,hg' _ _,Nat.succ_pos _,hw' _ _,by omega⟩
   ·rintro k vs S ⟨rfl,hg,hp,w,hki⟩ aE H
    have H':aD (kQ r) some l 0=some k:=H.symm
    simp only [↓cw,↓reduceIte,Nat.reduceLT,kk,Int.lt_irrefl,H']
    by_cases c:24≤l.length
    ·simp only [↓cw,↓reduceIte,Nat.reduceLT,c,show (24:Int)≤(l.length:Int) by omega,kk,oo,if_true,List.map_nil]
    ·obtain ⟨v,S1,v',S',q1,q2,q3,own⟩:=aY3 bOp (by decide) bCg l w (ka:=S.next+1) (kb:=S.next+4) (m:=S.next+8) (by omega) (by omega) (by omega) (by omega) (by omega) (by omega) (by unfold dR;omega) r hki
     have hg1:aA S1 0 0=.ok (5,[r.enc]):=aQ hg (q2 0 hp)
     simp only [Rate.enc] at hg hg1 q3
     simp only [↓cw,↓reduceIte,Nat.reduceLT,c,show ¬ (24:Int)≤(l.length:Int) by omega,kk,gm,hg,q1,hg1,bIz,if_false]
     rw [aUz bJb q3]
     simp only [oo,own.frz (cR (fun _=>rfl) _),c,if_false]
  ·simp only [↓cw,↓reduceIte,Nat.reduceLT,h0,kk,oo,if_true,not_false_eq_true,List.map_nil]
 ·have hr:dW l=false:=by simpa using hr
  simp only [↓cw,↓reduceIte,Nat.reduceLT,hr,kk,oo,if_true,List.map_nil]
end Go.Proofs.YtoaibmbldmckaaaGreat
end
section
namespace Go.AM
theorem aY4 (n:Nat) (z:List V) (parts:List (Nat×V)) (fr:Option Nat) (S:St) (hn:n≤1000):bN n z 2 parts fr S=(match zA n [z,z] parts with
  | .error e=>.error e
  | .ok elems=>match aY fr S (.row 0 n elems) with
   | .error e=>.error e
   | .ok (a,S')=>.ok (.sl a 0 n 0 2,S')):=by
 unfold bN
 rw [if_pos (by omega)]
 rfl
theorem bCh (z:List V) (parts:List (Nat×V)) (fr:Option Nat) (S:St):type_of% (aY4 2 z parts fr S (by decide)):=aY4 2 z parts fr S (by decide)
theorem Own.bump {S0 S:St} {n:Nat} {v:V} {es:List (List V)} (h:Own S0 S n v es) (c:Nat):Own S0 ⟨S.next+c,S.heap⟩ n v es:=h.ext ((Ext.refl S).bump c)
theorem Own.newV {S0 S:St} {n:Nat} {v:V} {es:List (List V)} (h:Own S0 S n v es) (hp:es.all (fun cs=>cs.all lI)=true):newV S v=true:=by
 have he:=h.sl.elems
 rcases h.is with ⟨rfl,_⟩ | ⟨a,ver,tl,rfl,_⟩
 ·rfl
 ·simp only [Go.AM.newV,he,hp]
theorem aJq {α:Type} {enc:α→List V} (h:∀ a,(enc a).all lI=true):∀ l:List α,(l.map enc).all (fun cs=>cs.all lI)=true
 | []=>rfl
 | a::l=>by simp only [List.map_cons,List.all_cons,h a,aJq h l,Bool.and_self]
theorem aOo {n b:Nat} {S:St} {v:V} {es:List (List V)} (h:Own E0 S n v es) (w:WF S) {cs:List (List V)} (hc:∀ c,c∈cs→c.length=n∧aH c=true) (hne:cs≠[]) (h1:(es.length+cs.length)*b≤35184372088832) (h2:es.length+cs.length<dR):
  ∃ v' S',eE n b v (.sl S.next 0 n 0 cs.length) none ⟨S.next+1,S.heap.put S.next (.row 0 n cs)⟩=.ok (v',S')∧Own E0 S' n v' (es++cs)∧WF S'∧∀ y,y<S.next→(∀ a ver m,v=.sl a ver n 0 m→y≠a)→S'.heap.get y=S.heap.get y:=by
 have x:Ext S ⟨S.next+1,S.heap.put S.next (.row 0 n cs)⟩:=Ext.new w _
 have hu:aO ⟨S.next+1,S.heap.put S.next (.row 0 n cs)⟩ (.sl S.next 0 n 0 cs.length)=.ok cs:=by
  have hb:Nat.ble (0+cs.length) cs.length=true:=Nat.ble_eq_true_of_le (by omega)
  simp only [aO,aC,hb,cond_true,List.drop_zero,List.take_length]
 obtain ⟨v',S',q1,q2,_,q3,q4⟩:=(h.ext x).pushK (b:=b) (aD8 (x.wf w)) nK hu hc hne h1 h2
 refine ⟨v',S',q1,q3,q2.wf nK,fun y hy hya=>?_⟩
 rw [q4 y (by show y<S.next+1;omega) hya]
 exact Tr.get_put_neB _ _ _ _ trivial (by omega)
end Go.AM
namespace Go.Proofs.YtoaibmbldmckaaaGreat
open Go.AM Tryz
set_option linter.unusedVariables false
set_option linter.unusedSimpArgs false
set_option maxRecDepth 100000
def Total.enc (t:Total):List V:=[.int .i64 t.net,.int .i64 t.tax,.int .i64 t.gross,.imm (t.parts.map Part.enc)]
def aJr (t:Total):Prop:=t.parts.length≤12∧∀ q∈t.parts,q.cat.length≤1000000
theorem aBo {P:Program} {t:TypeId} {a b:List UInt8} (h:a.length+b.length<2000000):bQ P .add t (.str a) (.str b)=.ok (.str (a++b)):=by
 have:Nat.blt (a.length+b.length) dR=true:=by rw [Nat.blt_eq];unfold dR;omega
 simp only [bQ,aA2,this,cond_true]
theorem aEm (x:Bal):x.enc.length=2∧aH x.enc=true:=⟨rfl,rfl⟩
theorem aOp (x:Part):x.enc.length=4∧aH x.enc=true:=⟨rfl,rfl⟩
theorem bOr (t:Total) (hf:aJr t):FnK prog uL 157 [.agg [.int .i64 t.net,.int .i64 t.tax,.int .i64 t.gross,.imm (t.parts.map Part.enc)]] (.tup [.imm ((cC t).1.map Bal.enc),.int .i64 (cC t).2]):=by
 refine bLg ?_
 delta Tryz.f157;simp only [↓cw,↓reduceIte,Nat.reduceLT,kk,aY2]
 have hpl:=hf.1
 refine aF t.parts (step:=iN) (fin:=fun l=>(l,0)) (fun i s vs S=>∃ v,vs=[.nils,.int .i64 0,v,.int .i64 (i:Int)]∧Own E0 S 2 v (s.map Bal.enc)∧WF S∧s.length=1+2*i) (fun r=>r=cC t) ?_ ?_ (s:=[⟨[111,119,101,100],t.gross⟩]) ⟨_,rfl,⟨.inr ⟨1,0,[],rfl,Nat.zero_le _,Nat.lt_succ_self 1,rfl⟩,?_⟩,hM (hM (m:=1) nK (by decide) (by decide)) (by decide) (by decide),rfl⟩ rfl
 ·rintro i p s vs S hi ⟨v,rfl,own,w,hsl⟩ aE H
  have hil:=(List.getElem?_eq_some_iff.1 hi).1
  have hcat:=hf.2 p (List.mem_of_getElem? hi)
  simp only [↓cw,↓reduceIte,Nat.reduceLT,iN,kk] at H
  have e1:vV.length+p.cat.length<2000000:=by simp only [vV,List.length_cons,List.length_nil];omega
  have e2:vW.length+p.cat.length<2000000:=by simp only [vW,List.length_cons,List.length_nil];omega
  have c1:=aBo (P:=prog) (t:=9) e1
  have c2:=aBo (P:=prog) (t:=9) e2
  simp only [vV,vW] at c1 c2
  simp only [↓cw,↓reduceIte,Nat.reduceLT,kk,bL hi,iT hi,Part.enc,iE (show i<1000000000 by omega),bDg,dF,iI,c1,c2,bCh]
  by_cases h1:(bR 0 p.net).2=0
  ·by_cases h2:(bR 0 p.tax).2=0
   ·simp only [↓cw,↓reduceIte,Nat.reduceLT,h1,h2,kk,not_true_eq_false,if_false] at H ⊢
    have w1:WF ⟨S.next+1,(S.heap.put S.next (.row 0 4 [[V.str [],.int .i64 0,.int .i64 0,.int .i64 0]])).put S.next (.row 0 4 [p.enc])⟩:=hM (hM w (Nat.lt_succ_self _) (Nat.le_succ _)) (Nat.lt_succ_self _) (Nat.le_refl _)
    have x1:Ext S ⟨S.next+1,(S.heap.put S.next (.row 0 4 [[V.str [],.int .i64 0,.int .i64 0,.int .i64 0]])).put S.next (.row 0 4 [p.enc])⟩:=Ext.var w 4 _ _
    obtain ⟨v',S',q1,q2,q3,_⟩:=aOo (b:=24) (own.ext x1) w1 (cs:=[Bal.enc ⟨vV++p.cat,(bR 0 p.net).1⟩,Bal.enc ⟨vW++p.cat,(bR 0 p.tax).1⟩]) (fun c hc=>by
     rcases List.mem_cons.1 hc with rfl | hc
     ·exact aEm _
     ·rcases List.mem_cons.1 hc with rfl | hc
      ·exact aEm _
      ·cases hc) (by simp) (by simp;omega) (by simp [dR];omega)
    simp only [↓cw,↓reduceIte,Nat.reduceLT,Part.enc,Bal.enc,vV,vW,kk] at q1
    simp only [↓cw,↓reduceIte,Nat.reduceLT,q1,kk]
    exact H _ _ ⟨_,rfl,by rw [List.map_append];exact q2,q3,by rw [List.length_append,hsl];simp;omega⟩
   ·simp only [↓cw,↓reduceIte,Nat.reduceLT,h1,h2,kk,not_true_eq_false,not_false_eq_true,if_false,if_true] at H ⊢
    exact ⟨rfl,by simp only [oo,←H,List.map_nil]⟩
  ·simp only [↓cw,↓reduceIte,Nat.reduceLT,h1,kk,not_false_eq_true,if_true] at H ⊢
   exact ⟨rfl,by simp only [oo,←H,List.map_nil]⟩
 ·rintro s vs S ⟨v,rfl,own,w,_⟩ aE H
  have H':cC t=(s,0):=H.symm
  simp only [↓cw,↓reduceIte,Nat.reduceLT,kk,Int.lt_irrefl,if_false]
  exact ⟨by simp only [aEv,List.all_cons,List.all_nil,own.newV (aJq (fun _=>rfl) _),Bool.true_and,Bool.and_true];rfl,by simp only [oo,own.frz (cR (fun _=>rfl) _),H']⟩
 ·intro c hc;simp at hc;subst hc;exact ⟨rfl,rfl⟩
theorem bJc (t:Total) (hf:aJr t) (S:St) (K:KW):C 157 [.agg [.int .i64 t.net,.int .i64 t.tax,.int .i64 t.gross,.imm (t.parts.map Part.enc)]] S K=K (.tup [.imm ((cC t).1.map Bal.enc),.int .i64 (cC t).2]) S:=(bOr t hf).eq (by simp only [cloVs,yD,cR (enc:=Part.enc) (fun _=>rfl) t.parts,Bool.and_self]) S K
theorem bJd (l:List Bal) (hb:l.length<1000000):Fv 220 [.imm (l.map Bal.enc)] (.bool (uY l)):=by
 refine bMh rfl ?_
 delta Tryz.f220;simp only [↓cw,↓reduceIte,Nat.reduceLT]
 refine aF (l.drop 1) (step:=sP) (fin:=fun _=>true) (fun j s vs S=>s=l[j]?∧vs=[.bool false,.int .i64 ((j+1:Nat):Int)]) (fun r=>V.bool r=.bool (uY l)) ?_ ?_ (s:=l[0]?) ⟨rfl,rfl⟩ rfl
 ·rintro j b s vs S hi ⟨rfl,rfl⟩ aE H
  rw [List.getElem?_drop,Nat.add_comm] at hi
  have hil:=(List.getElem?_eq_some_iff.1 hi).1
  have hj:l[j]?=some l[j]:=List.getElem?_eq_getElem (by omega)
  simp only [hj,sP,hi] at H
  simp only [↓cw,↓reduceIte,Nat.reduceLT,kk,bL hi,oC hi,oC hj,Bal.enc,wrm (show j+1<1000000000 by omega),iE (show j+1<1000000000 by omega)]
  cases c:fN l[j].acc b.acc<;>simp only [↓cw,↓reduceIte,Nat.reduceLT,c,kk,if_true,if_false,Bool.false_eq_true] at H ⊢
  ·exact H
  ·exact H _ _ rfl
 ·rintro s vs S ⟨rfl,rfl⟩ aE H
  have hn:¬ (((l.drop 1).length+1:Nat):Int)<(l.length:Int):=by rw [List.length_drop];omega
  simp only [↓cw,↓reduceIte,Nat.reduceLT,kk,hn]
  exact H
theorem bOs (l:List Bal) (hb:l.length<1000000) (S:St) (K:KW):C 220 [.imm (l.map Bal.enc)] S K=K (.bool (uY l)) S:=(bJd l hb).eq S K
theorem bOt:apT prog 27=some (2,24):=by kernel_rfl
theorem bJe:uL 221=some (.spec ((Sp.ins 27).run prog)):=by kernel_rfl
theorem bDo (book l:List Bal) (hbb:book.length+l.length<1000000) (S:St) (K:KW):C 158 [.imm (book.map Bal.enc),.imm (l.map Bal.enc)] S K=K (.tup [.imm ((bC book l).1.map Bal.enc),.int .i64 (bC book l).2]) S:=by
 refine (bNe rfl ?_).eq S K
 simp only [aXj,kk,bOs book (show book.length<1000000 by omega),bC]
 by_cases hr:uY book=true
 ·simp only [hr,kk,Bool.true_eq_false,if_false]
  obtain ⟨v0,S0,q0,x0,own0⟩:=aUy (b:=24) aEm book nK (by omega) (by unfold dR;omega)
  simp only [q0,kk]
  refine aF l (step:=bD) (fin:=fun l=>(l,0)) (fun i s vs S=>∃ v,vs=[.nils,.int .i64 0,v,.int .i64 (i:Int)]∧Own E0 S 2 v (s.map Bal.enc)∧WF S∧s.length≤book.length+i) (fun r=>r=aD bD (fun l=>(l,0)) l book) ?_ ?_ (s:=book) ⟨_,rfl,own0,x0.wf nK,Nat.le_refl _⟩ rfl
  ·rintro i x s vs S hi ⟨v,rfl,own,w,hsl⟩ aE H
   have hil:=(List.getElem?_eq_some_iff.1 hi).1
   rw [qO] at H
   simp only [aHl,kk,bL hi,oC hi,Bal.enc]
   obtain ⟨S1,hS1⟩:∃ S1:St,S1=⟨S.next+1,(S.heap.put S.next (.row 0 2 [[V.str [],.int .i64 0]])).put S.next (.row 0 2 [[.str x.acc,.int .i64 x.amount]])⟩:=⟨_,rfl⟩
   have x1:Ext S S1:=by rw [hS1];exact Ext.var w 2 _ _
   have w1:=x1.wf w
   have hg1:aA S1 S.next 0=.ok (2,[x.enc]):=by rw [hS1];exact aC _ _ _ _ _ _
   have own1:=own.ext x1
   have hlt1:S.next<S1.next:=by rw [hS1];exact Nat.lt_succ_self _
   rw [←hS1]
   have hva:∀ a ver m,v=.sl a ver 2 0 m→S.next≠a:=by
    intro a ver m hv
    rcases own.is with ⟨rfl,_⟩ | ⟨a',ver',tl,rfl,_,hlt,_⟩
    ·cases hv
    ·cases hv;omega
   have hlen:s.length<1000000:=by omega
   have hple:=nU s x.acc
   have hj1:∀ (v':V) (S':St),Own E0 S' 2 v' ((bI s x.acc).map Bal.enc)→WF S'→aA S' S.next 0=.ok (2,[x.enc])→aBg C (fun v0 S0=>gK S0 v0=.ok (.tup [.imm ((aD bD (fun l=>(l,0)) l book).1.map Bal.enc),.int .i64 (aD bD (fun l=>(l,0)) l book).2])) aE .nils (.int .i64 0) v' (.ptr S.next 0 0 0) (.int .i64 (aI s x.acc:Int)) (.imm (l.map Bal.enc)) (.int .i64 (l.length:Int)) (.int .i64 (i:Int)) S':=by
    intro v' S' own' w' hg'
    obtain ⟨b,hb⟩:=nV s x.acc
    obtain ⟨a,ver,_,_,_,e4,hat,set1⟩:=(own'.bump 13).setK (aD8 (w'.bump 13)) nK (i:=aI s x.acc) (cs:=b.enc) (by simp [hb]) .i64
    obtain ⟨S2,st1,x2,n2,own2,keep2,w2⟩:=set1 1 1 (.int .i64 (cS b.amount x.amount).1) rfl rfl (by decide)
    have hld:=hat.load none 1
    simp only [adv,kk,Bal.enc] at hld
    have hfin:((bI s x.acc).map Bal.enc).set (aI s x.acc) (splice b.enc 1 [.int .i64 (cS b.amount x.amount).1])=((bI s x.acc).set (aI s x.acc) ⟨b.acc,(cS b.amount x.amount).1⟩).map Bal.enc:=by rw [List.map_set];rfl
    simp only [V.cells] at own2
    rw [hfin] at own2
    simp only [hb,Option.map_some,Option.getD_some,kk] at H
    have hg2:aA ⟨S'.next+13,S'.heap⟩ S.next 0=.ok (2,[x.enc]):=hg'
    simp only [Bal.enc] at hg2
    simp only [aBg,e4,kk,hld,hg2,aXz,dF,iE (show i<1000000000 by omega),st1]
    by_cases h0:(cS b.amount x.amount).2=0
    ·simp only [h0,kk,not_true_eq_false,if_false] at H ⊢
     exact H _ _ ⟨_,rfl,own2,w2 (w'.bump 13),by rw [List.length_set];have:=aAi s x.acc;omega⟩
    ·simp only [h0,kk,not_false_eq_true,if_true] at H ⊢
     simp only [oo,←H,List.map_nil]
   have hj2:∀ (S':St),Own E0 S' 2 v (s.map Bal.enc)→WF S'→aA S' S.next 0=.ok (2,[x.enc])→S.next<S'.next→yI C (fun v0 S0=>gK S0 v0=.ok (.tup [.imm ((aD bD (fun l=>(l,0)) l book).1.map Bal.enc),.int .i64 (aD bD (fun l=>(l,0)) l book).2])) aE .nils (.int .i64 0) v (.ptr S.next 0 0 0) (.int .i64 (aI s x.acc:Int)) (.imm (l.map Bal.enc)) (.int .i64 (l.length:Int)) (.int .i64 (i:Int)) (.bool (fA s x.acc)) S':=by
    intro S' own' w' hg' hlt'
    cases hm:fA s x.acc
    ·simp only [yI,kk]
     exact hj1 v S' (by rw [show bI s x.acc=s by simp [bI,hm]];exact own') w' hg'
    ·obtain ⟨v2,S2,q1,w2,own2,keep2⟩:=bCf bOt (by decide) own' w' (aEm ⟨x.acc,0⟩) (by simp;omega) (by simp [dR];omega) (i:=aI s x.acc) (by simpa using hple)
     rw [←pA] at own2
     have hg2:=aQ hg' (keep2 S.next hlt' hva)
     simp only [Bal.enc] at hg' q1
     simp only [yI,kk,hg',aY2]
     rw [aUz bJe q1]
     exact hj1 v2 S2 (by rw [show bI s x.acc=eG s (aI s x.acc) ⟨x.acc,0⟩ by simp [bI,hm]];exact own2) w2 hg2
   have hj0:∀ (S':St),Own E0 S' 2 v (s.map Bal.enc)→WF S'→aA S' S.next 0=.ok (2,[x.enc])→S.next<S'.next→aBh C (fun v0 S0=>gK S0 v0=.ok (.tup [.imm ((aD bD (fun l=>(l,0)) l book).1.map Bal.enc),.int .i64 (aD bD (fun l=>(l,0)) l book).2])) aE .nils (.int .i64 0) v (.ptr S.next 0 0 0) (.int .i64 (aI s x.acc:Int)) (.imm (l.map Bal.enc)) (.int .i64 (l.length:Int)) (.int .i64 (i:Int)) S':=by
    intro S' own' w' hg' hlt'
    have h2:=hj2 ⟨S'.next+14,S'.heap⟩ (own'.bump 14) (w'.bump 14) hg' (by show S.next<S'.next+14;omega)
    have hgb:aA ⟨S'.next+14,S'.heap⟩ S.next 0=.ok (2,[x.enc]):=hg'
    simp only [Bal.enc] at hgb
    simp only [aBh,own'.sl.lenI,kk]
    by_cases hk:aI s x.acc=s.length
    ·have hm:fA s x.acc=true:=by unfold fA;rw [hk,List.getElem?_eq_none (Nat.le_refl _)]
     rw [hm] at h2
     simp only [hk,kk,eq_self,if_true]
     rw [hk] at h2
     exact h2
    ·have hlt:aI s x.acc<s.length:=by omega
     have hb:s[aI s x.acc]?=some s[aI s x.acc]:=List.getElem?_eq_getElem hlt
     have hm:fA s x.acc=!((s[aI s x.acc]).acc == x.acc):=by unfold fA;rw [hb]
     rw [hm] at h2
     obtain ⟨p,hp,hat,_,_⟩:=(own'.bump 14).sl.elem hb
     have hld:=hat.load none 0
     simp only [Bal.enc,kk] at hld
     simp only [show ¬ ((aI s x.acc:Nat):Int)=(s.length:Int) by omega,kk,if_false,hp,hat.advW,hld,hgb]
     exact h2
   refine aF s (step:=eP (fun b:Bal=>fN b.acc x.acc)) (fin:=id) (fun k n vs S'=>n=k∧vs=[.int .i64 (k:Int)]∧S'.heap=S1.heap∧S1.next≤S'.next) (fun r=>r=aI s x.acc) ?_ ?_ ⟨rfl,rfl,rfl,Nat.le_refl _⟩ rfl
   ·rintro k b n vs S' hk ⟨rfl,rfl,hh,hn⟩ again' H'
    have hkl:=(List.getElem?_eq_some_iff.1 hk).1
    have hown:∀ c,Own E0 ⟨S'.next+c,S'.heap⟩ 2 v (s.map Bal.enc):=fun c=>own1.same (by show S1.next≤S'.next+c;omega) (fun a _=>by show S'.heap.get a=_;rw [hh])
    have hw:∀ c,WF ⟨S'.next+c,S'.heap⟩:=fun c a b hb=>by
     have hb:S'.heap.get a=some b:=hb
     rw [hh] at hb;have:=w1 a b hb;show a<S'.next+c;omega
    have hgr:∀ c,aA ⟨S'.next+c,S'.heap⟩ S.next 0=.ok (2,[x.enc]):=fun c=>by
     show aA ⟨S'.next,S'.heap⟩ S.next 0=_
     rw [hh];exact hg1
    have hgb:=hgr 14
    simp only [Bal.enc] at hgb
    obtain ⟨p,hp,hat,_,_⟩:=(hown 14).sl.elem hk
    have hld:=hat.load none 0
    simp only [Bal.enc,kk] at hld
    simp only [eP] at H'
    simp only [aHk,kk,own1.sl.lenI,bL hk,hp,hat.advW,hld,hgb,iE (show n<1000000000 by omega)]
    cases c:fN b.acc x.acc<;>simp only [c,kk,if_true,if_false,Bool.false_eq_true] at H' ⊢
    ·have:=hj0 ⟨S'.next+14,S'.heap⟩ (hown 14) (hw 14) (hgr 14) (by show S.next<S'.next+14;omega)
     rw [←H'] at this
     exact this
    ·exact H' _ _ ⟨rfl,hh,by show S1.next≤S'.next+14;omega⟩
   ·rintro n vs S' ⟨rfl,rfl,hh,hn⟩ again' H'
    have hown:∀ c,Own E0 ⟨S'.next+c,S'.heap⟩ 2 v (s.map Bal.enc):=fun c=>own1.same (by show S1.next≤S'.next+c;omega) (fun a _=>by show S'.heap.get a=_;rw [hh])
    have hw:∀ c,WF ⟨S'.next+c,S'.heap⟩:=fun c a b hb=>by
     have hb:S'.heap.get a=some b:=hb
     rw [hh] at hb;have:=w1 a b hb;show a<S'.next+c;omega
    have hgr:∀ c,aA ⟨S'.next+c,S'.heap⟩ S.next 0=.ok (2,[x.enc]):=fun c=>by
     show aA ⟨S'.next,S'.heap⟩ S.next 0=_
     rw [hh];exact hg1
    have H':s.length=aI s x.acc:=H'
    simp only [aHk,kk,own1.sl.lenI,Int.lt_irrefl]
    have:=hj0 ⟨S'.next+14,S'.heap⟩ (hown 14) (hw 14) (hgr 14) (by show S.next<S'.next+14;omega)
    rw [←H'] at this
    exact this
  ·rintro s vs S ⟨v,rfl,own,w,_⟩ aE H
   have H':aD bD (fun l=>(l,0)) l book=(s,0):=H.symm
   simp only [aHl,kk,Int.lt_irrefl,oo,own.frz (cR (fun _=>rfl) _),H']
 ·have hr:uY book=false:=by simpa using hr
  simp only [hr,kk,oo,if_true,List.map_nil]
end Go.Proofs.YtoaibmbldmckaaaGreat
end
section
namespace Go.Proofs.YtoaibmbldmckaaaGreat
open Go.AM Tryz
theorem bOu (tab:List Rate) (d:Date) (l:Line) (S:St) (K:KW):C 268 [.imm (tab.map Rate.enc),.agg [.int .i64 d.y,.int .i64 d.m,.int .i64 d.d],.agg [.str l.text,.str l.cat,.int .i64 l.count,.int .i64 l.price]] S K=K (aUs (fI tab d l)) S:=by
 refine (bN3 rfl ?_).eq S K
 delta Tryz.f268;simp only [↓cw,↓reduceIte,Nat.reduceLT,kk,iI,aUx,bOo,bO2,fI,aUs,dF]
 by_cases c1:64<l.text.length
 ·simp only [↓cw,↓reduceIte,Nat.reduceLT,c1,show (64:Int)<(l.text.length:Int) by omega,kk,oo,if_true]
 simp only [↓cw,↓reduceIte,Nat.reduceLT,c1,show ¬ (64:Int)<(l.text.length:Int) by omega,kk,if_false]
 cases c2:cW l.cat
 ·simp only [↓cw,↓reduceIte,Nat.reduceLT,c2,kk,oo,if_true]
 simp only [↓cw,↓reduceIte,Nat.reduceLT,c2,kk,Bool.true_eq_false,if_false]
 by_cases c3:l.count<1
 ·simp only [↓cw,↓reduceIte,Nat.reduceLT,c3,kk,oo,true_or,if_true]
 by_cases c4:1048576<l.count
 ·simp only [↓cw,↓reduceIte,Nat.reduceLT,c3,c4,kk,oo,or_true,if_true,if_false]
 simp only [↓cw,↓reduceIte,Nat.reduceLT,c3,c4,kk,if_false,or_self]
 cases c5:(iL tab l.cat d).2
 ·simp only [↓cw,↓reduceIte,Nat.reduceLT,c5,kk,oo,if_true]
 ·simp only [↓cw,↓reduceIte,Nat.reduceLT,c5,kk,oo,Bool.true_eq_false,if_false]
theorem bOv:apT prog 80=some (4,40):=by kernel_rfl
theorem bJf:uL 280=some (.spec ((Sp.ins 80).run prog)):=by kernel_rfl
theorem bOw {P:Program} {T:TypeId} {n b:Nat} (hT:apT P T=some (n,b)) (hn:1<n) {S0 S:St} {v:V} {es:List (List V)} (h:Own S0 S n v es) (x:Ext S0 S) (w:WF S0) {c:List V} (hc:c.length=n∧aH c=true) (h1:(es.length+1)*b≤35184372088832) (h2:es.length+1<dR) {i:Nat} (hi:i≤es.length):
  ∃ v' S',gP P T v (.int .i64 (i:Int)) (.sl S.next 0 n 0 1) ⟨S.next+1,S.heap.put S.next (.row 0 n [c])⟩=.ok (v',S')∧Ext S0 S'∧Own S0 S' n v' (es.take i++c::es.drop i):=by
 have x1:Ext S ⟨S.next+1,S.heap.put S.next (.row 0 n [c])⟩:=Ext.new (x.wf w) _
 obtain ⟨v',S',q1,q2,q3,_⟩:=(h.ext x1).insertK hT hn (x.trans x1) w (bx:=S.next) (c:=c) (aC _ _ _ _ _ _) (fun a ver m hv=>by
  rcases h.is with ⟨rfl,_⟩ | ⟨a',ver',tl,rfl,_,hlt,_⟩
  ·cases hv
  ·cases hv;omega) hc h1 h2 hi
 exact ⟨v',S',q1,q2,q3⟩
theorem bOx {S0 S:St} {v:V} {l:List Part} (own:Own S0 S 4 v (l.map Part.enc)) (x:Ext S0 S) (w:WF S0) (hl:l.length≤1000) (cat:List UInt8) (bp n:Int) {K:KW} (H:∀ v' S',Ext S0 S'→Own S0 S' 4 v' ((rT l cat bp n).1.map Part.enc)→K (.tup [v',.int .i64 (rT l cat bp n).2]) S'):C 269 [v,.str cat,.int .i64 bp,.int .i64 n] S K:=by
 refine bNk ?_
 simp only [aXp]
 have hple:=qR l cat
 have hlen:lenW v=.ok (.int .i64 (l.length:Int)):=own.sl.lenI
 have hj1:∀ (v':V) (S':St),Ext S0 S'→Own S0 S' 4 v' ((dC l cat bp).map Part.enc)→aBk C K v' (.int .i64 n) (.int .i64 (bK l cat:Int)) S':=by
  intro v' S' x' own'
  obtain ⟨b,hb⟩:=qT l cat bp
  obtain ⟨a,ver,_,_,_,e4,hat,set1⟩:=own'.setK x' w (i:=bK l cat) (cs:=b.enc) (by simp [hb]) .i64
  obtain ⟨S2,st1,x2,n2,own2,keep2,w2⟩:=set1 2 1 (.int .i64 (cS b.net n).1) rfl rfl (by decide)
  have hld:=hat.load none 2
  simp only [adv,kk,Part.enc] at hld
  have hfin:((dC l cat bp).map Part.enc).set (bK l cat) (splice b.enc 2 [.int .i64 (cS b.net n).1])=((dC l cat bp).set (bK l cat) { b with net:=(cS b.net n).1 }).map Part.enc:=by rw [List.map_set];rfl
  simp only [V.cells] at own2
  rw [hfin] at own2
  have hput:rT l cat bp n=((dC l cat bp).set (bK l cat) { b with net:=(cS b.net n).1 },(cS b.net n).2):=by simp only [rT,hb]
  simp only [aBk,e4,kk,hld,aXz,dF,st1]
  have:=H v' S2 x2 (by rw [hput];exact own2)
  rw [hput] at this
  exact this
 have hj2:yJ C K v (.str cat) (.int .i64 bp) (.int .i64 n) (.int .i64 (bK l cat:Int)) (.bool (jP l cat)) S:=by
  cases hm:jP l cat
  ·simp only [yJ,kk,Bool.false_eq_true,if_false]
   exact hj1 v S x (by rw [show dC l cat bp=l by simp [dC,hm]];exact own)
  ·obtain ⟨v2,S2,q1,x2,own2⟩:=bOw bOv (by decide) own x w (aOp ⟨cat,bp,0,0⟩) (by simp;omega) (by simp [dR];omega) (i:=bK l cat) (by simpa using hple)
   rw [←pA] at own2
   simp only [Part.enc] at q1
   simp only [yJ,kk,if_true,bDl]
   rw [aUz bJf q1]
   exact hj1 v2 S2 x2 (by rw [show dC l cat bp=eG l (bK l cat) ⟨cat,bp,0,0⟩ by simp [dC,hm]];exact own2)
 have hj0:aBl C K v (.str cat) (.int .i64 bp) (.int .i64 n) (.int .i64 (bK l cat:Int)) S:=by
  simp only [aBl,kk,hlen]
  by_cases hk:bK l cat=l.length
  ·have hm:jP l cat=true:=by unfold jP;rw [hk,List.getElem?_eq_none (Nat.le_refl _)]
   rw [hm] at hj2
   rw [hk] at hj2
   simp only [hk,kk,if_true]
   exact hj2
  ·have hlt:bK l cat<l.length:=by omega
   have hb:l[bK l cat]?=some l[bK l cat]:=List.getElem?_eq_getElem hlt
   have hm:jP l cat=!((l[bK l cat]).cat == cat):=by unfold jP;rw [hb]
   rw [hm] at hj2
   obtain ⟨p,hp,hat,_,_⟩:=own.sl.elem hb
   have hld:=hat.load none 0
   simp only [Part.enc,kk] at hld
   simp only [show ¬ ((bK l cat:Nat):Int)=(l.length:Int) by omega,kk,if_false,hp,hat.advW,hld]
   exact hj2
 refine aF l (step:=eP (fun b:Part=>fN b.cat cat)) (fin:=id) (fun k n vs S'=>n=k∧vs=[.int .i64 (k:Int)]∧S'=S) (fun r=>r=bK l cat) ?_ ?_ ⟨rfl,rfl,rfl⟩ rfl
 ·rintro k b m vs S' hk ⟨rfl,rfl,rfl⟩ again' H'
  have hkl:=(List.getElem?_eq_some_iff.1 hk).1
  obtain ⟨p,hp,hat,_,_⟩:=own.sl.elem hk
  have hld:=hat.load none 0
  simp only [Part.enc,kk] at hld
  simp only [eP] at H'
  simp only [aHq,kk,hlen,bL hk,hp,hat.advW,hld,iE (show m<1000000000 by omega)]
  cases c:fN b.cat cat<;>simp only [c,kk,if_true,if_false,Bool.false_eq_true] at H' ⊢
  ·rw [←H'] at hj0
   exact hj0
  ·exact H' _ _ ⟨rfl,rfl⟩
 ·rintro m vs S' ⟨rfl,rfl,rfl⟩ again' H'
  have H':l.length=bK l cat:=H'
  simp only [aHq,kk,hlen,Int.lt_irrefl,if_false]
  rw [←H'] at hj0
  exact hj0
end Go.Proofs.YtoaibmbldmckaaaGreat
end
section
namespace Go.AM
theorem Own.one {S0 S:St} {n:Nat} {v:V} {es:List (List V)} (h:Own S0 S n v es):v.one=true:=by
 rcases h.is with ⟨rfl,_⟩ | ⟨a,ver,tl,rfl,_⟩<;>rfl
theorem Own.cells {S0 S:St} {n:Nat} {v:V} {es:List (List V)} (h:Own S0 S n v es):v.cells=[v]:=by
 rcases h.is with ⟨rfl,_⟩ | ⟨a,ver,tl,rfl,_⟩<;>rfl
theorem Own.lt {S0 S:St} {n:Nat} {v:V} {es:List (List V)} (h:Own S0 S n v es):∀ a ver m,v=.sl a ver n 0 m→a<S.next:=by
 intro a ver m hv
 rcases h.is with ⟨rfl,_⟩ | ⟨a',ver',tl,rfl,_,hlt,_⟩
 ·cases hv
 ·cases hv;exact hlt
theorem Own.ld {S0 S:St} {n:Nat} {v:V} {es:List (List V)} (h:Own S0 S n v es) {a ver m:Nat} (hv:v=.sl a ver n 0 m) {i:Nat} {cs:List V} (hi:es[i]?=some cs) (k:Option Nat) (j:Nat):jH k (.ptr a ver i j) S=lR k cs j:=by
 rcases h.is with ⟨rfl,rfl⟩ | ⟨a',ver',tl,rfl,q1,q2,q3⟩
 ·simp at hi
 ·cases hv
  have hil:=(List.getElem?_eq_some_iff.1 hi).1
  have hg:(es++tl)[i]?=some cs:=by rw [List.getElem?_append_left hil];exact hi
  simp only [ldP,bW q3,hg]
theorem Own.put {S0 S:St} {n:Nat} {v:V} {es:List (List V)} (h:Own S0 S n v es) {k m:Nat} {b:Blk} (hm:S.next≤m) (hk:∀ a ver m,v=.sl a ver n 0 m→k≠a):Own S0 ⟨m,S.heap.put k b⟩ n v es:=
 h.other hm fun a ver m hv=>Tr.get_put_neB _ _ _ _ trivial (Ne.symm (hk a ver m hv))
theorem Ext.put {S S':St} (h:Ext S S') {a m:Nat} (ha:S.next≤a) (hb:a<m) (hm:S'.next≤m) (w:WF S) (b:Blk):Ext S ⟨m,S'.heap.put a b⟩:=
 ⟨fun y c hy=>by
  show (S'.heap.put a b).get y=some c
  have:=w y c hy
  rw [Tr.get_put_neB _ _ _ _ trivial (by omega)];exact h.old y c hy,Nat.le_trans h.next hm,fun ww=>hM (h.wf ww) hb hm⟩
end Go.AM
namespace Go.Proofs.YtoaibmbldmckaaaGreat
open Go.AM Tryz
set_option linter.unusedVariables false
set_option linter.unusedSimpArgs false
set_option maxRecDepth 100000
theorem bOy {S0 S:St} {v:V} {l:List Part} (own:Own S0 S 4 v (l.map Part.enc)) (x:Ext S0 S) (w:WF S0) (hl:l.length≤1000) {K:KW}
  (H:∀ v' S',Ext S0 S'→Own S0 S' 4 v' ((eT l).1.parts.map Part.enc)→K (.tup [.agg [.int .i64 (eT l).1.net,.int .i64 (eT l).1.tax,.int .i64 (eT l).1.gross,v'],.int .i64 (eT l).2]) S'):C 270 [v] S K:=by
 refine bNm ?_
 have hlen:lenW v=.ok (.int .i64 (l.length:Int)):=own.sl.lenI
 have h1:=own.one
 have hlt:=own.lt
 have h2:=own.cells
 simp only [aXr,kk,h1,h2,hlen]
 have hn:=x.next
 refine aF l (step:=gA) (fin:=lC) (fun i s vs S'=>vs=[.int .i64 0,.int .i64 (i:Int)]∧Ext S0 S'∧Own S0 S' 4 v ((s.2.2++l.drop i).map Part.enc)∧s.2.2.length=i∧S.next+2≤S'.next∧aA S' S.next 0=.ok (4,[[.int .i64 0,.int .i64 0,.int .i64 0,.nils]])∧aA S' (S.next+1) 0=.ok (4,[[.int .i64 s.1,.int .i64 s.2.1,.int .i64 0,v]])) (fun r=>r=eT l) ?_ ?_ (s:=(0,0,[])) ⟨rfl,?_,?_,rfl,?_,?_,?_⟩ rfl
 ·rintro i p ⟨net,tax,done⟩ vs S' hi ⟨rfl,x',own',hd,hn',hg0,hg1⟩ aE Hq
  have hil:=(List.getElem?_eq_some_iff.1 hi).1
  obtain ⟨a,ver,hv,ha,hb,e4,hat,set1⟩:=(own'.bump 17).setK (x'.bump 17) w (i:=i) (cs:=p.enc) (by
   rw [List.getElem?_map,List.getElem?_append_right (by omega),hd,Nat.sub_self,List.getElem?_drop,Nat.add_zero,hi];rfl) .i64
  obtain ⟨S2,st1,x2,n2,own2,keep2,w2⟩:=set1 3 1 (.int .i64 (bF p.net p.bp).1) rfl rfl (by decide)
  have hav:=hlt a ver _ hv
  have hld2:=hat.load none 2
  have hld1:=hat.load none 1
  simp only [adv,kk,Part.enc] at hld1 hld2
  have hne0:a≠S.next:=by omega
  have hne1:a≠S.next+1:=by omega
  have k0:=aQ (S:=⟨S'.next+17,S'.heap⟩) hg0 (keep2 S.next (Ne.symm hne0))
  have k1:=aQ (S:=⟨S'.next+17,S'.heap⟩) hg1 (keep2 (S.next+1) (Ne.symm hne1))
  have hes:((done++l.drop i).map Part.enc).set i (splice p.enc 3 [.int .i64 (bF p.net p.bp).1])=((done++[{ p with tax:=(bF p.net p.bp).1 }])++l.drop (i+1)).map Part.enc:=by
   have hd':done.length=i:=hd
   rw [List.drop_eq_getElem_cons hil,(List.getElem?_eq_some_iff.1 hi).2]
   simp only [List.map_append,List.map_cons,List.map_nil,List.append_assoc,List.singleton_append]
   rw [List.set_append_right _ _ (by simp;omega)]
   simp only [List.length_map,hd',Nat.sub_self,List.set_cons_zero]
   rfl
  simp only [V.cells] at own2
  rw [hes] at own2
  have hi2:(((done++[{ p with tax:=(bF p.net p.bp).1 }])++l.drop (i+1)).map Part.enc)[i]?=some (Part.enc { p with tax:=(bF p.net p.bp).1 }):=by
   have hd':done.length=i:=hd
   rw [List.getElem?_map,List.getElem?_append_left (by simp;omega),List.getElem?_append_right (by omega),hd',Nat.sub_self];rfl
  have ow3:∀ (m:Nat) (b:Blk),S2.next≤m→Own S0 ⟨m,S2.heap.put (S.next+1) b⟩ 4 v (((done++[{ p with tax:=(bF p.net p.bp).1 }])++l.drop (i+1)).map Part.enc):=fun m b hm=>own2.put hm fun a ver m hv=>by have:=hlt a ver m hv;omega
  have ld3:∀ (m:Nat) (b:Blk) (k:Option Nat) (j:Nat),S2.next≤m→jH k (.ptr a ver i j) ⟨m,S2.heap.put (S.next+1) b⟩=lR k (Part.enc { p with tax:=(bF p.net p.bp).1 }) j:=fun m b k j hm=>(ow3 m b hm).ld hv hi2 k j
  have ld2:∀ k j,jH k (.ptr a ver i j) ⟨S2.next+13,S2.heap⟩=lR k (Part.enc { p with tax:=(bF p.net p.bp).1 }) j:=fun k j=>(own2.bump 13).ld hv hi2 k j
  have l2:=ld2 none 2
  have l3:=fun m b hm=>ld3 m b none 3 hm
  simp only [gA] at Hq
  simp only [kk,Part.enc] at l2 l3
  have hn2:S2.next=S'.next+17:=n2
  have g0:∀ (m:Nat) (b:Blk),aA ⟨m,S2.heap.put (S.next+1) b⟩ S.next 0=.ok (4,[[V.int IntKind.i64 0,V.int IntKind.i64 0,V.int IntKind.i64 0,V.nils]]):=fun m b=>by
   rw [cI _ S2.next _ _ _ _ _ (by omega)];exact k0
  have x3:∀ (m:Nat) (b:Blk),S2.next≤m→Ext S0 ⟨m,S2.heap.put (S.next+1) b⟩:=fun m b hm=>x2.put (by omega) (by omega) hm w b
  simp only [aHr,kk,bL hi,e4,hld1,hld2,bIs,aXz,dF,st1,iE (show i<1000000000 by omega),gm,k1,l2,l3 _ _ (show S2.next≤S2.next+13+13 by omega)]
  obtain ⟨S9,hS9⟩:∃ S9:St,S9=⟨S2.next+13+13,(S2.heap.put (S.next+1) (Blk.row 0 4 [[V.int IntKind.i64 (cS net p.net).1,V.int IntKind.i64 tax,V.int IntKind.i64 0,v]])).put (S.next+1) (Blk.row 0 4 [[V.int IntKind.i64 (cS net p.net).1,V.int IntKind.i64 (cS tax (bF p.net p.bp).1).1,V.int IntKind.i64 0,v]])⟩:=⟨_,rfl⟩
  have x9:Ext S0 S9:=by rw [hS9];exact (x3 S2.next _ (Nat.le_refl _)).put (by omega) (by omega) (show S2.next≤S2.next+13+13 by omega) w _
  have o9:Own S0 S9 4 v (((done++[{ p with tax:=(bF p.net p.bp).1 }])++l.drop (i+1)).map Part.enc):=by rw [hS9];exact (ow3 S2.next _ (Nat.le_refl _)).put (show S2.next≤S2.next+13+13 by omega) fun a ver m hv=>by have:=hlt a ver m hv;omega
  have r9:aA S9 S.next 0=.ok (4,[[V.int IntKind.i64 0,V.int IntKind.i64 0,V.int IntKind.i64 0,V.nils]]):=by rw [hS9,cI _ S2.next _ _ _ _ _ (by omega)];exact g0 _ _
  have q9:aA S9 (S.next+1) 0=.ok (4,[[V.int IntKind.i64 (cS net p.net).1,V.int IntKind.i64 (cS tax (bF p.net p.bp).1).1,V.int IntKind.i64 0,v]]):=by rw [hS9];exact aC _ _ _ _ _ _
  have n9:S.next+2≤S9.next:=by rw [hS9];show _≤S2.next+13+13;omega
  rw [←hS9]
  have fail:eT l=(Total.zero,7)→tV C K aE v (V.ptr S.next 0 0 0) (V.int IntKind.i64 0) (V.ptr (S.next+1) 0 0 0) (V.int IntKind.i64 ↑l.length) (V.int IntKind.i64 ↑i) (V.bool true) S9:=by
   intro he
   have:=H .nils ⟨S9.next,S9.heap.put S.next (.row 0 4 [[.int .i64 0,.int .i64 0,.int .i64 0,.nils]])⟩ (x9.put hn (by omega) (Nat.le_refl _) w _) (by rw [he];exact Own.nil _ _ _)
   simp only [he,Total.zero] at this
   simp only [tV,kk,r9]
   exact this
  by_cases c1:(bF p.net p.bp).2=0
  ·by_cases c2:(cS net p.net).2=0
   ·simp only [c1,c2,kk,not_true_eq_false,not_false_eq_true,false_or,if_false,if_true] at Hq ⊢
    by_cases c3:(cS tax (bF p.net p.bp).1).2=0
    ·simp only [c3,kk,not_true_eq_false,if_false] at Hq ⊢
     simp only [tV,kk,iE (show i<1000000000 by omega),decide_true,decide_false,Bool.false_eq_true,if_false]
     exact Hq _ _ ⟨rfl,x9,o9,by have hd':done.length=i:=hd;simp;omega,n9,r9,q9⟩
    ·simp only [c3,kk,not_false_eq_true,if_true,decide_false] at Hq ⊢
     exact fail Hq.symm
   ·simp only [c1,c2,kk,not_true_eq_false,not_false_eq_true,false_or,true_or,if_false,if_true] at Hq ⊢
    exact fail Hq.symm
  ·simp only [c1,kk,not_false_eq_true,true_or,if_true] at Hq ⊢
   exact fail Hq.symm
 ·rintro ⟨net,tax,done⟩ vs S' ⟨rfl,x',own',hd,hn',hg0,hg1⟩ aE Hq
  rw [List.drop_length,List.append_nil] at own'
  simp only [lC] at Hq
  simp only [aHr,kk,Int.lt_irrefl,if_false,hg1,aXz,dF]
  by_cases c:(cS net tax).2=0
  ·simp only [c,kk,not_true_eq_false,if_false] at Hq ⊢
   have hb:∀ (k:Nat) (b:Blk),aA ⟨S'.next,S'.heap.put (S.next+1) b⟩ S.next 0=.ok (4,[[V.int IntKind.i64 0,V.int IntKind.i64 0,V.int IntKind.i64 0,V.nils]]):=fun k b=>by rw [cI _ S'.next _ _ _ _ _ (by omega)];exact hg0
   simp only [hb 0,kk,h1,h2,gm]
   have x1:=x'.put (a:=S.next+1) (m:=S'.next) (by omega) (by omega) (Nat.le_refl _) w (.row 0 4 [[.int .i64 net,.int .i64 tax,.int .i64 (cS net tax).1,v]])
   have o1:=own'.put (k:=S.next+1) (m:=S'.next) (b:=.row 0 4 [[.int .i64 net,.int .i64 tax,.int .i64 (cS net tax).1,v]]) (Nat.le_refl _) fun a ver m hv=>by have:=hlt a ver m hv;omega
   have:=H v _ (x1.put (a:=S.next) (m:=S'.next) hn (by omega) (Nat.le_refl _) w (.row 0 4 [[.int .i64 net,.int .i64 tax,.int .i64 (cS net tax).1,v]])) (by rw [←Hq];exact o1.put (Nat.le_refl _) fun a ver m hv=>by have:=hlt a ver m hv;omega)
   rw [←Hq] at this
   exact this
  ·simp only [c,kk,not_false_eq_true,if_true] at Hq ⊢
   simp only [hg0,kk]
   have:=H .nils ⟨S'.next,S'.heap.put S.next (.row 0 4 [[.int .i64 0,.int .i64 0,.int .i64 0,.nils]])⟩ (x'.put hn (by omega) (Nat.le_refl _) w _) (by rw [←Hq];exact Own.nil _ _ _)
   rw [←Hq] at this
   exact this
 ·exact ((x.put (m:=S.next+1+1) hn (by omega) (by omega) w _).put (m:=S.next+1+1) (by omega) (by omega) (Nat.le_refl _) w _).put (m:=S.next+1+1) (by omega) (by omega) (Nat.le_refl _) w _
 ·rw [List.nil_append,List.drop_zero]
  have nn:∀ k,S.next≤k→∀ a ver m,v=.sl a ver 4 0 m→k≠a:=fun k hk a ver m hv=>by have:=hlt a ver m hv;omega
  exact ((own.put (m:=S.next+1+1) (by omega) (nn _ (Nat.le_refl _))).put (Nat.le_refl _) (nn _ (by omega))).put (Nat.le_refl _) (nn _ (by omega))
 ·exact Nat.le_refl _
 ·rw [cI _ S.next _ _ _ _ _ (by omega),cI _ S.next _ _ _ _ _ (by omega)];exact aC _ _ _ _ _ _
 ·exact aC _ _ _ _ _ _
end Go.Proofs.YtoaibmbldmckaaaGreat
end
section
namespace Go.AM
theorem Own.out {S0 S:St} {n:Nat} {v:V} {α:Type} {enc:α→List V} {l:List α} (h:Own S0 S n v (l.map enc)) (hc:∀ x,cloVs (enc x)=true):cM kO (lY (iZ S 3) S) v=.ok (.imm (l.map enc)):=h.frz (cR hc _)
end Go.AM
namespace Go.Proofs.YtoaibmbldmckaaaGreat
open Go.AM Tryz
set_option linter.unusedVariables false
set_option linter.unusedSimpArgs false
set_option maxRecDepth 100000
def aB3 (r:Total×Int):V:=.tup [.agg [.int .i64 r.1.net,.int .i64 r.1.tax,.int .i64 r.1.gross,.imm (r.1.parts.map Part.enc)],.int .i64 r.2]
theorem bOz (tab:List Rate) (d:Date) (lines:List Line) (hll:lines.length<1000000) (S:St) (K:KW):C 238 [.imm (tab.map Rate.enc),.agg [.int .i64 d.y,.int .i64 d.m,.int .i64 d.d],.imm (lines.map Line.enc)] S K=K (aB3 (cZ tab d lines)) S:=by
 refine (bMu rfl ?_).eq S K
 delta Tryz.f238;simp only [↓cw,↓reduceIte,Nat.reduceLT,kk,iI,g85,aJn,cZ,aB3]
 cases h1:dW tab
 ·simp only [↓cw,↓reduceIte,Nat.reduceLT,h1,kk,oo,if_true,Total.zero,List.map_nil]
 cases h2:d.right
 ·simp only [↓cw,↓reduceIte,Nat.reduceLT,h1,h2,kk,iI,oo,if_true,Bool.true_eq_false,if_false,Total.zero,List.map_nil]
 simp only [↓cw,↓reduceIte,Nat.reduceLT,h1,h2,kk,Bool.true_eq_false,if_false,iI,aJn]
 by_cases h3:lines.length=0
 ·simp only [↓cw,↓reduceIte,Nat.reduceLT,h3,kk,iI,oo,show ((0:Nat):Int)=0 from rfl,if_true,Total.zero,List.map_nil]
 by_cases h4:12<lines.length
 ·simp only [↓cw,↓reduceIte,Nat.reduceLT,h3,h4,kk,iI,oo,show ¬ (lines.length:Int)=0 by omega,show (12:Int)<(lines.length:Int) by omega,if_true,if_false,Total.zero,List.map_nil]
 simp only [↓cw,↓reduceIte,Nat.reduceLT,h3,h4,kk,iI,show ¬ (lines.length:Int)=0 by omega,show ¬ (12:Int)<(lines.length:Int) by omega,if_false]
 obtain ⟨S0,hS0⟩:∃ S0:St,S0=⟨1+1,(Tr.nil.put 0 (.row 0 3 [d.enc])).put 1 (.row 0 4 [[.int .i64 0,.int .i64 0,.int .i64 0,.nils]])⟩:=⟨_,rfl⟩
 have w0:WF S0:=by rw [hS0];exact hM (n:=1) (hM nK (by decide) (by decide)) (by decide) (by decide)
 have a0:aA S0 0 0=.ok (3,[d.enc]):=by rw [hS0];rfl
 have a1:aA S0 1 0=.ok (4,[[.int .i64 0,.int .i64 0,.int .i64 0,.nils]]):=by rw [hS0];rfl
 have n0:S0.next=2:=by rw [hS0]
 simp only [Date.enc] at a0
 refine aF lines (step:=iO tab d) (fin:=eT) (fun i s vs S=>∃ v,vs=[.int .i64 0,v,.int .i64 (i:Int)]∧Own S0 S 4 v (s.map Part.enc)∧Ext S0 S∧s.length≤i) (fun r=>r=aD (iO tab d) eT lines []) ?_ ?_ (s:=[]) ⟨_,rfl,Own.nil _ _ _,by rw [hS0];exact Ext.refl _,Nat.le_refl _⟩ rfl
 ·rintro i l s vs S hi ⟨v,rfl,own,x,hsl⟩ aE H
  have hil:=(List.getElem?_eq_some_iff.1 hi).1
  simp only [iO] at H
  have hn:=x.next
  have b0:=x.row a0
  have b1:=x.row a1
  have z0:((0:Nat)=S.next)=False:=by simp;omega
  have z1:((1:Nat)=S.next)=False:=by simp;omega
  have x1:Ext S0 ⟨S.next+1,(S.heap.put S.next (.row 0 4 [[.str [],.str [],.int .i64 0,.int .i64 0]])).put S.next (.row 0 4 [l.enc])⟩:=(x.put (m:=S.next+1) hn (by omega) (by omega) w0 _).put (m:=S.next+1) hn (by omega) (Nat.le_refl _) w0 _
  have nn:∀ a ver m,v=.sl a ver 4 0 m→S.next≠a:=fun a ver m hv=>by have:=own.lt a ver m hv;omega
  have o1:Own S0 ⟨S.next+1,(S.heap.put S.next (.row 0 4 [[.str [],.str [],.int .i64 0,.int .i64 0]])).put S.next (.row 0 4 [l.enc])⟩ 4 v (s.map Part.enc):=(own.put (m:=S.next+1) (by omega) nn).put (m:=S.next+1) (Nat.le_refl _) nn
  simp only [Line.enc] at x1 o1
  simp only [↓cw,↓reduceIte,Nat.reduceLT,kk,bL hi,bDd hi,Line.enc,iI,z0,z1,gm,b0,b1,bOu,aUs]
  by_cases c1:(fI tab d l).2.2=0
  ·simp only [↓cw,↓reduceIte,Nat.reduceLT,c1,kk,not_true_eq_false,if_false] at H ⊢
   refine bOx o1 x1 w0 (by omega) l.cat _ _ fun v' S' x' own'=>?_
   have b1':=x'.row a1
   by_cases c2:(rT s l.cat (fI tab d l).1 (fI tab d l).2.1).2=0
   ·simp only [↓cw,↓reduceIte,Nat.reduceLT,c2,kk,not_true_eq_false,if_false,iE (show i<1000000000 by omega)] at H ⊢
    exact H _ _ ⟨v',rfl,own',x',by have:=aJj s l.cat (fI tab d l).1 (fI tab d l).2.1;omega⟩
   ·simp only [↓cw,↓reduceIte,Nat.reduceLT,c2,kk,b1',not_false_eq_true,if_true] at H ⊢
    simp only [oo,←H,Total.zero,List.map_nil]
  ·simp only [↓cw,↓reduceIte,Nat.reduceLT,c1,kk,not_false_eq_true,if_true] at H ⊢
   simp only [oo,←H,Total.zero,List.map_nil]
 ·rintro s vs S ⟨v,rfl,own,x,hsl⟩ aE H
  simp only [↓cw,↓reduceIte,Nat.reduceLT,kk,Int.lt_irrefl,if_false]
  refine bOy own x w0 (by omega) fun v' S' x' own'=>?_
  have b1':=x'.row a1
  have H':eT s=aD (iO tab d) eT lines []:=H
  simp only [↓cw,↓reduceIte,Nat.reduceLT,kk,own'.one,own'.cells,b1',←H']
  have:=(own'.put (m:=S'.next) (k:=1) (b:=.row 0 4 [[.int .i64 (eT s).1.net,.int .i64 (eT s).1.tax,.int .i64 (eT s).1.gross,v']]) (Nat.le_refl _) fun a ver m hv=>by
   rcases own'.is with ⟨rfl,_⟩ | ⟨a',ver',tl,rfl,h,_⟩
   ·cases hv
   ·cases hv;omega).out fun _=>rfl
  simp only [oo,this]
end Go.Proofs.YtoaibmbldmckaaaGreat
end
section
namespace Go.AM
theorem bCi (n:Nat) (z:List V) (parts:List (Nat×V)) (fr:Option Nat) (S:St) (hn:n≤1000):bN n z 3 parts fr S=(match zA n [z,z,z] parts with
  | .error e=>.error e
  | .ok elems=>match aY fr S (.row 0 n elems) with
   | .error e=>.error e
   | .ok (a,S')=>.ok (.sl a 0 n 0 3,S')):=by
 unfold bN
 rw [if_pos (by omega)]
 rfl
theorem bJg (z:List V) (parts:List (Nat×V)) (fr:Option Nat) (S:St):type_of% (bCi 1 z parts fr S (by decide)):=bCi 1 z parts fr S (by decide)
theorem aV1 (z:List V) (parts:List (Nat×V)) (fr:Option Nat) (S:St):type_of% (aY4 1 z parts fr S (by decide)):=aY4 1 z parts fr S (by decide)
theorem ix3 (b:Nat):(∀ k:IntKind,gS 1 (.sl b 0 1 0 3) (.int k 0)=.ok (.ptr b 0 0 0))∧(∀ k:IntKind,gS 1 (.sl b 0 1 0 3) (.int k 1)=.ok (.ptr b 0 1 0))∧(∀ k:IntKind,gS 1 (.sl b 0 1 0 3) (.int k 2)=.ok (.ptr b 0 2 0)) ∧
  (∀ k:IntKind,gS 1 (.sl b 0 1 0 2) (.int k 0)=.ok (.ptr b 0 0 0))∧(∀ k:IntKind,gS 1 (.sl b 0 1 0 2) (.int k 1)=.ok (.ptr b 0 1 0)):=⟨fun _=>rfl,fun _=>rfl,fun _=>rfl,fun _=>rfl,fun _=>rfl⟩
theorem aG {n m:Nat} {h:Tr Blk} {a c ver k:Nat} {b:Blk} {el:List (List V)} (hne:c≠a) (hg:aA ⟨n,h⟩ c ver=.ok (k,el)):aA ⟨m,h.put a b⟩ c ver=.ok (k,el):=by
 rw [cI m n h a c ver b hne];exact hg
end Go.AM
namespace Go.Proofs.YtoaibmbldmckaaaGreat
open Go.AM Tryz
set_option linter.unusedVariables false
set_option linter.unusedSimpArgs false
set_option maxRecDepth 100000
theorem bJh {S:St} {a b:Nat} {q:V} {x y z:Int} (hb:aA S b 0=.ok (1,[[.ptr a 0 0 0],[.ptr a 0 0 1],[.ptr a 0 0 2]])) (ha:aA S a 0=.ok (4,[[.int .i64 x,.int .i64 y,.int .i64 z,q]])) (hne:b≠a) (han:a<S.next) {K:KW}
  (H:∀ S',S'.next=S.next→(∀ y,y≠a→S'.heap.get y=S.heap.get y)→(WF S→WF S')→((fJ [x,y,z]).2=0→aA S' a 0=.ok (4,[[.int .i64 ((fJ [x,y,z]).1.getD 0 0),.int .i64 ((fJ [x,y,z]).1.getD 1 0),.int .i64 ((fJ [x,y,z]).1.getD 2 0),q]]))→K (.int .i64 (fJ [x,y,z]).2) S'):C 259 [.sl b 0 1 0 3] S K:=by
 refine bEr ?_
 delta Tryz.f259;simp only [↓cw,↓reduceIte,Nat.reduceLT,kk]
 have hne':(b=a)=False:=by simp [hne]
 have key:∀ (cs:List V) (h:Tr Blk),(∀ y,y≠a→h.get y=S.heap.get y)→∀ y,y≠a→(h.put a (.row 0 4 [cs])).get y=S.heap.get y:=fun cs h hh y hy=>by rw [Tr.get_put_neB _ _ _ _ trivial hy];exact hh y hy
 have kw:∀ (cs:List V) (h:Tr Blk),(WF S→WF ⟨S.next,h⟩)→WF S→WF ⟨S.next,h.put a (.row 0 4 [cs])⟩:=fun cs h hh w=>hM (hh w) han (Nat.le_refl _)
 have e0:∀ y,y≠a→S.heap.get y=S.heap.get y:=fun _ _=>rfl
 have w0:WF S→WF ⟨S.next,S.heap⟩:=fun w=>w
 refine ⟨4,?_⟩
 simp only [↓cw,↓reduceIte,Nat.reduceLT,aA9,kk,show ((3:Nat):Int)=3 from rfl,show (0:Int)<3 by decide,show (1:Int)<3 by decide,show (2:Int)<3 by decide,show ¬ (3:Int)<3 by decide,ix3,hb,ha,bDg,dF,iI,hne',gm,ldP,show wr .i64 (0+1)=1 from rfl,show wr .i64 (1+1)=2 from rfl,show wr .i64 (2+1)=3 from rfl]
 simp only [fJ,aD,nW,ne_eq] at H
 by_cases c1:(bR 0 x).2=0
 ·by_cases c2:(bR 0 y).2=0
  ·by_cases c3:(bR 0 z).2=0
   ·simp only [↓cw,↓reduceIte,Nat.reduceLT,c1,c2,c3,kk,if_false,not_true_eq_false] at H ⊢
    exact H _ rfl (key _ _ (key _ _ (key _ _ e0))) (kw _ _ (kw _ _ (kw _ _ w0))) fun _=>aC _ _ _ _ _ _
   ·simp only [↓cw,↓reduceIte,Nat.reduceLT,c1,c2,c3,kk,if_false,if_true,not_true_eq_false,not_false_eq_true] at H ⊢
    exact H _ rfl (key _ _ (key _ _ e0)) (kw _ _ (kw _ _ w0)) fun h=>h.elim
  ·simp only [↓cw,↓reduceIte,Nat.reduceLT,c1,c2,kk,if_false,if_true,not_true_eq_false,not_false_eq_true] at H ⊢
   exact H _ rfl (key _ _ e0) (kw _ _ w0) fun h=>h.elim
 ·simp only [↓cw,↓reduceIte,Nat.reduceLT,c1,kk,if_true,not_false_eq_true] at H ⊢
  exact H S rfl e0 id fun h=>h.elim
theorem bJi {S:St} {v:V} {es:List (List V)} (own:Own E0 S 4 v es) (w:WF S) {a b ver m i:Nat} (hv:v=.sl a ver 4 0 m) {c:List UInt8} {bp x y:Int} (hi:es[i]?=some [.str c,.int .i64 bp,.int .i64 x,.int .i64 y]) (hb:aA S b 0=.ok (1,[[.ptr a ver i 2],[.ptr a ver i 3]])) (hne:b≠a) {K:KW}
  (H:∀ S',S'.next=S.next→(∀ y,y≠a→S'.heap.get y=S.heap.get y)→WF S'→((fJ [x,y]).2=0→Own E0 S' 4 v (es.set i [.str c,.int .i64 bp,.int .i64 ((fJ [x,y]).1.getD 0 0),.int .i64 ((fJ [x,y]).1.getD 1 0)]))→K (.int .i64 (fJ [x,y]).2) S'):C 259 [.sl b 0 1 0 2] S K:=by
 refine bEr ?_
 delta Tryz.f259;simp only [↓cw,↓reduceIte,Nat.reduceLT,kk]
 have hil:=(List.getElem?_eq_some_iff.1 hi).1
 obtain ⟨a1,ver1,hv1,_,_,_,_,set1⟩:=own.setK (aD8 w) nK hi .i64
 obtain ⟨rfl,rfl⟩:a1=a∧ver1=ver:=by rw [hv] at hv1;injection hv1 with h1 h2;exact ⟨h1.symm,h2.symm⟩
 obtain ⟨S2,st1,x2,n2,own2,keep2,w2⟩:=set1 2 1 (.int .i64 (bR 0 x).1) rfl rfl (by decide)
 have hi2:(es.set i (splice [.str c,.int .i64 bp,.int .i64 x,.int .i64 y] 2 [.int .i64 (bR 0 x).1]))[i]?=some [.str c,.int .i64 bp,.int .i64 (bR 0 x).1,.int .i64 y]:=by rw [List.getElem?_set_self hil];rfl
 obtain ⟨a2,ver2,hv2,_,_,_,_,set2⟩:=own2.setK x2 nK hi2 .i64
 obtain ⟨rfl,rfl⟩:a2=a1∧ver2=ver1:=by rw [hv] at hv2;injection hv2 with h1 h2;exact ⟨h1.symm,h2.symm⟩
 obtain ⟨S3,nY,x3,n3,own3,keep3,w3⟩:=set2 3 1 (.int .i64 (bR 0 y).1) rfl rfl (by decide)
 have l1:=own.ld hv hi none 2
 have l2:=own2.ld hv hi2 none 3
 have hb2:=aQ hb (keep2 b hne)
 simp only [V.cells,List.set_set] at own3
 simp only [↓cw,↓reduceIte,Nat.reduceLT,kk] at l1 l2
 refine ⟨3,?_⟩
 simp only [↓cw,↓reduceIte,Nat.reduceLT,aA9,kk,show ((2:Nat):Int)=2 from rfl,show (0:Int)<2 by decide,show (1:Int)<2 by decide,show ¬ (2:Int)<2 by decide,ix3,ldP none b,hb,hb2,bDg,dF,l1,l2,st1,nY,show wr .i64 (0+1)=1 from rfl,show wr .i64 (1+1)=2 from rfl]
 simp only [fJ,aD,nW,ne_eq] at H
 by_cases c1:(bR 0 x).2=0
 ·by_cases c2:(bR 0 y).2=0
  ·simp only [↓cw,↓reduceIte,Nat.reduceLT,c1,c2,kk,if_false,not_true_eq_false] at H ⊢
   exact H S3 (n3.trans n2) (fun y hy=>(keep3 y hy).trans (keep2 y hy)) (w3 (w2 w)) fun _=>own3
  ·simp only [↓cw,↓reduceIte,Nat.reduceLT,c1,c2,kk,if_false,if_true,not_true_eq_false,not_false_eq_true] at H ⊢
   exact H S2 n2 keep2 (w2 w) fun h=>h.elim
 ·simp only [↓cw,↓reduceIte,Nat.reduceLT,c1,kk,if_true,not_false_eq_true] at H ⊢
  exact H S rfl (fun _ _=>rfl) w fun h=>h.elim
theorem bJj (t:Total) (hf:t.parts.length≤1000) (S:St) (K:KW):C 228 [.agg [.int .i64 t.net,.int .i64 t.tax,.int .i64 t.gross,.imm (t.parts.map Part.enc)]] S K=K (aB3 (aV t)) S:=by
 refine (bMn rfl ?_).eq S K
 delta Tryz.f228;simp only [↓cw,↓reduceIte,Nat.reduceLT,kk,iI,aB3]
 obtain ⟨S1,hS1⟩:∃ S1:St,S1=⟨1+1,(Tr.nil.put 0 (Blk.row 0 4 [[.int .i64 t.net,.int .i64 t.tax,.int .i64 t.gross,.imm (t.parts.map Part.enc)]])).put 1 (.row 0 4 [[.int .i64 0,.int .i64 0,.int .i64 0,.nils]])⟩:=⟨_,rfl⟩
 have w1:WF S1:=by rw [hS1];exact hM (n:=1) (hM nK (by decide) (by decide)) (by decide) (by decide)
 have a0:aA S1 0 0=.ok (4,[[.int .i64 t.net,.int .i64 t.tax,.int .i64 t.gross,.imm (t.parts.map Part.enc)]]):=by rw [hS1];rfl
 have a1:aA S1 1 0=.ok (4,[[.int .i64 0,.int .i64 0,.int .i64 0,.nils]]):=by rw [hS1];rfl
 obtain ⟨v,S2,q1,x2,own⟩:=aOm (b:=40) aOp t.parts w1 (by omega) (by unfold dR;omega)
 have n1:S1.next=2:=by rw [hS1]
 have n2:=x2.next
 rw [←hS1]
 have b0:=x2.row a0
 have b1:=x2.row a1
 have o1:=own.one
 have o2:=own.cells
 have hvn:∀ a ver m,v=.sl a ver 4 0 m→2≤a:=by
  intro a ver m hv
  rcases own.is with ⟨rfl,_⟩ | ⟨a',ver',tl,rfl,h,_⟩
  ·cases hv
  ·cases hv;omega
 simp only [↓cw,↓reduceIte,Nat.reduceLT,q1,kk,o1,o2,b0,bJg]
 have nn:∀ k,k<2→∀ a ver m,v=.sl a ver 4 0 m→k≠a:=fun k hk a ver m hv=>by have:=hvn a ver m hv;omega
 have nS:∀ a ver m,v=.sl a ver 4 0 m→S2.next≠a:=fun a ver m hv=>by have:=own.lt a ver m hv;omega
 have oA:=((own.put (m:=S2.next) (b:=.row 0 4 [[.int .i64 t.net,.int .i64 t.tax,.int .i64 t.gross,v]]) (Nat.le_refl _) (nn 0 (by decide))).put (k:=S2.next) (m:=S2.next+1) (b:=.row 0 1 [[.ptr 0 0 0 0],[.ptr 0 0 0 1],[.ptr 0 0 0 2]]) (Nat.le_succ _) nS).weaken (A:=E0) (Nat.zero_le _)
 have wA:WF ⟨S2.next+1,(S2.heap.put 0 (.row 0 4 [[.int .i64 t.net,.int .i64 t.tax,.int .i64 t.gross,v]])).put S2.next (.row 0 1 [[.ptr 0 0 0 0],[.ptr 0 0 0 1],[.ptr 0 0 0 2]])⟩:=hM (n:=S2.next) (hM (n:=S2.next) (x2.wf w1) (by omega) (Nat.le_refl _)) (by omega) (by omega)
 have bA:aA ⟨S2.next+1,(S2.heap.put 0 (.row 0 4 [[.int .i64 t.net,.int .i64 t.tax,.int .i64 t.gross,v]])).put S2.next (.row 0 1 [[.ptr 0 0 0 0],[.ptr 0 0 0 1],[.ptr 0 0 0 2]])⟩ 1 0=.ok (4,[[.int .i64 0,.int .i64 0,.int .i64 0,.nils]]):=aG (n:=S2.next) (by omega) (aG (n:=S2.next) (by decide) b1)
 refine bJh (S:=⟨S2.next+1,(S2.heap.put 0 (.row 0 4 [[.int .i64 t.net,.int .i64 t.tax,.int .i64 t.gross,v]])).put S2.next (.row 0 1 [[.ptr 0 0 0 0],[.ptr 0 0 0 1],[.ptr 0 0 0 2]])⟩) (aC _ _ _ _ _ _) (aG (n:=S2.next) (by omega) (aC S2.next _ _ _ _ _)) (by omega) (by show 0<S2.next+1;omega) fun S3 n3 keep3 w3 g3=>?_
 have n3:S3.next=S2.next+1:=n3
 have c1:=aQ bA (keep3 1 (by decide))
 have o3:Own E0 S3 4 v (t.parts.map Part.enc):=oA.other (by show S2.next+1≤S3.next;omega) fun a ver m hv=>keep3 a (by have:=hvn a ver m hv;omega)
 simp only [↓cw,↓reduceIte,Nat.reduceLT,kk,aV]
 by_cases h0:(fJ [t.net,t.tax,t.gross]).2=0
 ·have g3:=g3 h0
  have hlen:lenW v=.ok (.int .i64 (t.parts.length:Int)):=own.sl.lenI
  obtain ⟨x,hx⟩:∃ x,x=(fJ [t.net,t.tax,t.gross]).1.getD 0 0:=⟨_,rfl⟩
  obtain ⟨y,hy⟩:∃ y,y=(fJ [t.net,t.tax,t.gross]).1.getD 1 0:=⟨_,rfl⟩
  obtain ⟨z,hz⟩:∃ z,z=(fJ [t.net,t.tax,t.gross]).1.getD 2 0:=⟨_,rfl⟩
  simp only [←hx,←hy,←hz] at g3 ⊢
  simp only [↓cw,↓reduceIte,Nat.reduceLT,h0,kk,not_true_eq_false,if_false,g3,hlen]
  refine aF t.parts (step:=cX) (fin:=fun l=>(l,0)) (fun i s vs S=>vs=[.int .i64 0,.int .i64 (i:Int)]∧Own E0 S 4 v ((s++t.parts.drop i).map Part.enc)∧s.length=i∧WF S∧2≤S.next∧aA S 0 0=.ok (4,[[.int .i64 x,.int .i64 y,.int .i64 z,v]])∧aA S 1 0=.ok (4,[[.int .i64 0,.int .i64 0,.int .i64 0,.nils]])) (fun r=>r=aD cX (fun l=>(l,0)) t.parts []) ?_ ?_ (s:=[]) ⟨rfl,by simpa using o3,rfl,w3 wA,by omega,g3,c1⟩ rfl
  ·rintro i p s vs S hi ⟨rfl,own,hd,w,hn,r0,r1⟩ aE H
   have hil:=(List.getElem?_eq_some_iff.1 hi).1
   have hpi:((s++t.parts.drop i).map Part.enc)[i]?=some p.enc:=by
    rw [List.getElem?_map,List.getElem?_append_right (by omega),hd,Nat.sub_self,List.getElem?_drop,Nat.add_zero,hi];rfl
   obtain ⟨a,ver,hv,_,hb,e4,_,_⟩:=own.setK (aD8 w) nK hpi .i64
   simp only [cX] at H
   simp only [↓cw,↓reduceIte,Nat.reduceLT,kk,bL hi,gm,r0,e4,aV1,iE (show i<1000000000 by omega)]
   have oB:=own.put (k:=S.next+10) (m:=S.next+13) (b:=.row 0 1 [[.ptr a ver i 2],[.ptr a ver i 3]]) (by omega) fun a ver m hv=>by have:=own.lt a ver m hv;omega
   refine bJi oB (hM (n:=S.next) w (by omega) (by omega)) hv hpi (aC _ _ _ _ _ _) (by omega) fun S4 n4 keep4 w4 g4=>?_
   have n4:S4.next=S.next+13:=n4
   have ha2:=hvn a ver _ hv
   have d0:=aQ (aG (n:=S.next) (m:=S.next+13) (a:=S.next+10) (b:=.row 0 1 [[.ptr a ver i 2],[.ptr a ver i 3]]) (by omega) r0) (keep4 0 (by omega))
   have d1:=aQ (aG (n:=S.next) (m:=S.next+13) (a:=S.next+10) (b:=.row 0 1 [[.ptr a ver i 2],[.ptr a ver i 3]]) (by omega) r1) (keep4 1 (by omega))
   by_cases c:(fJ [p.net,p.tax]).2=0
   ·have g4:=g4 c
    simp only [↓cw,↓reduceIte,Nat.reduceLT,c,kk,not_true_eq_false,if_false] at H ⊢
    refine H _ _ ⟨rfl,?_,by simp;omega,w4,by omega,d0,d1⟩
    have:((s++t.parts.drop i).map Part.enc).set i [.str p.cat,.int .i64 p.bp,.int .i64 ((fJ [p.net,p.tax]).1.getD 0 0),.int .i64 ((fJ [p.net,p.tax]).1.getD 1 0)]=((s++[{ p with net:=(fJ [p.net,p.tax]).1.getD 0 0,tax:=(fJ [p.net,p.tax]).1.getD 1 0 }])++t.parts.drop (i+1)).map Part.enc:=by
     rw [List.drop_eq_getElem_cons hil,(List.getElem?_eq_some_iff.1 hi).2]
     simp only [List.map_append,List.map_cons,List.map_nil,List.append_assoc,List.singleton_append]
     rw [List.set_append_right _ _ (by simp;omega)]
     simp only [List.length_map,hd,Nat.sub_self,List.set_cons_zero]
     rfl
    rw [this] at g4
    exact g4
   ·simp only [↓cw,↓reduceIte,Nat.reduceLT,c,kk,not_false_eq_true,if_true,d1] at H ⊢
    simp only [oo,←H,c,not_false_eq_true,if_true,Total.zero,List.map_nil]
  ·rintro s vs S ⟨rfl,own,hd,w,hn,r0,r1⟩ aE H
   rw [List.drop_length,List.append_nil] at own
   have H':aD cX (fun l=>(l,0)) t.parts []=(s,0):=H.symm
   have:=(own.put (m:=S.next) (k:=1) (b:=.row 0 4 [[.int .i64 x,.int .i64 y,.int .i64 z,v]]) (Nat.le_refl _) (nn 1 (by decide))).out fun _=>rfl
   simp only [↓cw,↓reduceIte,Nat.reduceLT,kk,Int.lt_irrefl,if_false,r0,r1,o1,o2,H',not_true_eq_false]
   simp only [oo,this]
 ·simp only [↓cw,↓reduceIte,Nat.reduceLT,h0,kk,not_false_eq_true,if_true,c1]
  simp only [oo,Total.zero,List.map_nil]
end Go.Proofs.YtoaibmbldmckaaaGreat
end
section
namespace Go.AM
theorem Fn.back {P:Program} {pl:jB} {f:FuncId} {args:List V} {v:V} (h:∀ S K,W P pl f args S K=K v S):Fn P pl f args v:=fun S=>by
 have h1:=h S fun v' S'=>v'=v∧S'=S
 obtain ⟨v',S',e,rfl,rfl⟩:=h1.mpr ⟨rfl,rfl⟩
 exact e
theorem Own.arg {P:Program} {pl:jB} {f:FuncId} {p:Nat→Option (List bM)} (hpl:pl f=some (.val p)) {S0 S:St} {n:Nat} {v r:V} {es:List (List V)} (h:Own S0 S n v es) (hc:es.all cloVs=true) (hf:∀ S K,W P pl f [.imm es] S K=K r S) (hk:jX r=true) (K:KW):W P pl f [v] S K=K r S:=
 (Fn.back hf).frz hpl rfl (by simp only [frzVs,h.frz hc]) (by simp only [ptrsVs,h.ptrs];rfl) (.inl hk) K
theorem Own.there {S0 S:St} {n:Nat} {v:V} {es:List (List V)} (h:Own S0 S n v es) {y:Nat} (hy:blkOf v=some y):S.heap.get y≠none:=by
 rcases h.is with ⟨rfl,_⟩ | ⟨a,ver,tl,rfl,_,_,hg⟩
 ·cases hy
 ·cases hy;rw [hg];exact fun h=>by cases h
theorem aJs {n b:Nat} {S:St} {v:V} {es:List (List V)} (h:Own E0 S n v es) (w:WF S) {k1 k2 m:Nat} (f1:S.heap.get k1=none) (f2:S.heap.get k2=none) (hne:k1≠k2) (hm1:k1<m) (hm2:k2<m) (hm:S.next≤m) {c:List V} (hc:c.length=n∧aH c=true) (h1:(es.length+1)*b≤35184372088832) (h2:es.length+1<dR):
  ∃ v' S',eE n b v (.sl k1 0 n 0 1) (some k2) ⟨m,S.heap.put k1 (.row 0 n [c])⟩=.ok (v',S')∧WF S'∧S'.next=m∧Own E0 S' n v' (es++[c])∧(blkOf v'=some k2∨blkOf v'=blkOf v)∧∀ y,y≠k1→y≠k2→blkOf v≠some y→S'.heap.get y=S.heap.get y:=by
 have w1:WF ⟨m,S.heap.put k1 (.row 0 n [c])⟩:=hM (n:=S.next) w hm1 hm
 have h':Own E0 ⟨m,S.heap.put k1 (.row 0 n [c])⟩ n v es:=h.same hm fun a ha=>Tr.get_put_neB _ _ _ _ trivial fun e=>h.there ha (by rw [e];exact f1)
 have hu:aO ⟨m,S.heap.put k1 (.row 0 n [c])⟩ (.sl k1 0 n 0 1)=.ok [c]:=by
  simp only [aO,aC];rfl
 have hf:(⟨m,S.heap.put k1 (.row 0 n [c])⟩:St).heap.get k2=none:=by
  show (S.heap.put k1 _).get k2=none
  rw [Tr.get_put_neB _ _ _ _ trivial (Ne.symm hne)];exact f2
 obtain ⟨v',S',q1,q2,q3,q4,q5,q6⟩:=h'.pushAt (b:=b) (aD8 w1) nK hu (fun d hd=>by rcases List.mem_singleton.1 hd with rfl;exact hc) (by simp) (Nat.zero_le _) hm2 hf h1 h2
 refine ⟨v',S',q1,q2.wf nK,q3,q4,q5,fun y y1 y2 y3=>?_⟩
 rw [q6 y y2 y3]
 exact Tr.get_put_neB _ _ _ _ trivial y1
theorem fresh {S:St} (w:WF S) {k:Nat} (hk:S.next≤k):S.heap.get k=none:=by
 cases hq:S.heap.get k with
 | none=>rfl
 | some b=>have:=w k b hq;omega
end Go.AM
namespace Go.Proofs.YtoaibmbldmckaaaGreat
open Go.AM Tryz
set_option linter.unusedVariables false
set_option linter.unusedSimpArgs false
set_option maxRecDepth 100000
theorem aQp (x:Int):(cD x).length=1∧aH (cD x)=true:=⟨rfl,rfl⟩
theorem bDp {S0 S:St} {v:V} {l:List Int} (h:Own S0 S 1 v (l.map cD)) (hl:l.length<1000000) (K:KW):C 218 [v] S K=K (.tup [.int .i64 (dO l).1,.bool (dO l).2]) S:=h.arg bEm (cR (fun _=>rfl) _) (fun S K=>bO6 l hl S K) rfl K
theorem bP0 (t:Total) (hl:t.parts.length<100000) (S:St) (K:KW):C 226 [.agg [.int .i64 t.net,.int .i64 t.tax,.int .i64 t.gross,.imm (t.parts.map Part.enc)]] S K=K (.bool (iD t)) S:=by
 refine (bMl rfl ?_).eq S K
 delta Tryz.f226;simp only [↓cw,↓reduceIte,Nat.reduceLT,kk]
 refine aF t.parts (step:=tX) (fin:=id) (fun i s vs S=>∃ u v,vs=[u,v,.int .i64 (i:Int)]∧Own E0 S 1 u (s.1.map cD)∧Own E0 S 1 v (s.2.map cD)∧s.1.length=i∧s.2.length=i∧WF S∧(∀ y,AM.blkOf u=some y→AM.blkOf v≠some y)∧AM.blkOf u≠some 0∧AM.blkOf v≠some 0∧aA S 0 0=.ok (4,[[.int .i64 t.net,.int .i64 t.tax,.int .i64 t.gross,.imm (t.parts.map Part.enc)]])∧0<S.next) (fun r=>r=(t.parts.map (·.net),t.parts.map (·.tax))) ?_ ?_ (s:=([],[])) ⟨_,_,rfl,Own.nil _ _ _,Own.nil _ _ _,rfl,rfl,hM nK (by decide) (by decide),fun y h=>(by cases h),fun h=>(by cases h),fun h=>(by cases h),aC _ _ _ _ _ _,Nat.zero_lt_one⟩ (by rw [bDc];rfl)
 ·rintro i p ⟨ns,ts⟩ vs S hi ⟨u,v,rfl,ou,ov,lu,lv,w,huv,hu0,hv0,r0,h0⟩ aE H
  have hil:=(List.getElem?_eq_some_iff.1 hi).1
  have lu:ns.length=i:=lu
  have lv:ts.length=i:=lv
  simp only [tX] at H
  have hS1:∃ S1:St,S1=⟨S.next+1,(S.heap.put S.next (.row 0 4 [[.str [],.int .i64 0,.int .i64 0,.int .i64 0]])).put S.next (.row 0 4 [p.enc])⟩:=⟨_,rfl⟩
  obtain ⟨S1,hS1⟩:=hS1
  have n1:S1.next=S.next+1:=by rw [hS1]
  have w1:WF S1:=by rw [hS1];exact (Ext.var w 4 _ _).wf w
  have x1:Ext S S1:=by rw [hS1];exact Ext.var w 4 _ _
  have g1:aA S1 S.next 0=.ok (4,[p.enc]):=by rw [hS1];exact aC _ _ _ _ _ _
  have bu:∀ y,AM.blkOf u=some y→y<S.next:=fun y hy=>(fG ou hy).2
  have bv:∀ y,AM.blkOf v=some y→y<S.next:=fun y hy=>(fG ov hy).2
  obtain ⟨u',S2,q1,w2,n2,ou2,bu2,keep2⟩:=aJs (b:=8) (ou.ext x1) w1 (k1:=S1.next+3) (k2:=S1.next+4) (m:=S1.next+12) (fresh w1 (by omega)) (fresh w1 (by omega)) (by omega) (by omega) (by omega) (by omega) (aQp p.net) (by simp;omega) (by simp [dR];omega)
  have k2:∀ y,y<S1.next→AM.blkOf u≠some y→S2.heap.get y=S1.heap.get y:=fun y hy h=>keep2 y (by omega) (by omega) h
  have g2:aA S2 S.next 0=.ok (4,[p.enc]):=aQ g1 (k2 S.next (by omega) fun h=>by have:=bu _ h;omega)
  have ov2:Own E0 S2 1 v (ts.map cD):=(ov.ext x1).same (by omega) fun a ha=>k2 a (by have:=bv a ha;omega) fun h=>huv a h ha
  have fr8:∀ k,5≤k→S2.heap.get (S1.next+k)=none:=fun k hk=>by
   rw [keep2 (S1.next+k) (by omega) (by omega) fun h=>by have:=bu _ h;omega];exact fresh w1 (by omega)
  obtain ⟨v',S3,q2,w3,n3,ov3,bv3,keep3⟩:=aJs (b:=8) ov2 w2 (k1:=S1.next+8) (k2:=S1.next+9) (m:=S2.next) (fr8 8 (by omega)) (fr8 9 (by omega)) (by omega) (by omega) (by omega) (Nat.le_refl _) (aQp p.tax) (by simp;omega) (by simp [dR];omega)
  have hu2:∀ y,AM.blkOf u'=some y→y=S1.next+4∨AM.blkOf u=some y:=fun y hy=>by
   rcases bu2 with h | h
   ·rw [h] at hy;cases hy;exact .inl rfl
   ·rw [h] at hy;exact .inr hy
  have hv3:∀ y,AM.blkOf v'=some y→y=S1.next+9∨AM.blkOf v=some y:=fun y hy=>by
   rcases bv3 with h | h
   ·rw [h] at hy;cases hy;exact .inl rfl
   ·rw [h] at hy;exact .inr hy
  have hb8:∀ a,AM.blkOf u'=some a→a≠S1.next+8∧a≠S1.next+9:=fun a ha=>by
   rcases hu2 a ha with h | h
   ·omega
   ·have:=bu a h;omega
  have ou3:Own E0 S3 1 u' ((ns++[p.net]).map cD):=by
   rw [List.map_append]
   exact ou2.same (by omega) fun a ha=>keep3 a (hb8 a ha).1 (hb8 a ha).2 fun hv=>by
    rcases hu2 a ha with h | h
    ·have:=bv a hv;omega
    ·exact huv a h hv
  have r3:=aQ (aQ (x1.row r0) (k2 0 (by omega) hu0)) (keep3 0 (by omega) (by omega) hv0)
  have hh:(S.heap.put S.next (.row 0 4 [[.str [],.int .i64 0,.int .i64 0,.int .i64 0]])).put S.next (.row 0 4 [[.str p.cat,.int .i64 p.bp,.int .i64 p.net,.int .i64 p.tax]])=S1.heap:=by rw [hS1];rfl
  simp only [Part.enc] at g1
  simp only [Part.enc,n1] at g2 q1 q2
  simp only [cD] at q1 q2
  simp only [↓cw,↓reduceIte,Nat.reduceLT,kk,bL hi,iT hi,Part.enc,iE (show i<1000000000 by omega),hh,gm,g1,zS,q1,g2,q2]
  exact H _ _ ⟨u',v',rfl,ou3,by rw [List.map_append];exact ov3,by simp;omega,by simp;omega,w3,fun y hy hy'=>by
   rcases hu2 y hy with h | h<;>rcases hv3 y hy' with h' | h'
   ·omega
   ·have:=bv y h';omega
   ·have:=bu y h;omega
   ·exact huv y h h',fun h=>by
   rcases hu2 0 h with h | h
   ·omega
   ·exact hu0 h,fun h=>by
   rcases hv3 0 h with h | h
   ·omega
   ·exact hv0 h,r3,by omega⟩
 ·rintro ⟨ns,ts⟩ vs S ⟨u,v,rfl,ou,ov,lu,lv,w,huv,hu0,hv0,r0,h0⟩ aE H
  have lu:ns.length=t.parts.length:=lu
  have lv:ts.length=t.parts.length:=lv
  obtain ⟨rfl,rfl⟩:ns=t.parts.map (·.net)∧ts=t.parts.map (·.tax):=Prod.mk.inj H
  have hlu:=bDp ou (by omega)
  have hlv:=bDp ov (by omega)
  have ow:Own E0 ⟨S.next+1,S.heap.put S.next (.row 0 1 ([t.net,t.tax].map cD))⟩ 1 (.sl S.next 0 1 0 2) ([t.net,t.tax].map cD):=⟨.inr ⟨S.next,0,[],rfl,Nat.zero_le _,Nat.lt_succ_self _,by rw [List.append_nil];exact Tr.get_put_sameB _ _ _ trivial⟩,fun c hc=>by
   rcases List.mem_cons.1 hc with rfl | hc
   ·exact aQp _
   ·rcases List.mem_cons.1 hc with rfl | hc
    ·exact aQp _
    ·cases hc⟩
  have hlw:=bDp ow (by simp)
  have z0:((0:Nat)=S.next)=False:=by simp;omega
  simp only [List.map_cons,List.map_nil,cD] at hlw
  simp only [↓cw,↓reduceIte,Nat.reduceLT,kk,Int.lt_irrefl,if_false,hlu,hlv,r0,aV1,hlw,iI,z0,gm,iD,oo]
  split
  rotate_left
  ·rfl
  split
  rotate_left
  ·rfl
  split
  rotate_left
  ·rfl
  split
  rotate_left
  ·rfl
  split<;>rfl
end Go.Proofs.YtoaibmbldmckaaaGreat
end
section
namespace Go.Proofs.YtoaibmbldmckaaaGreat
open Go.AM Tryz
theorem bP1 (t:Total) (S:St) (K:KW):C 167 [.agg [.int .i64 t.net,.int .i64 t.tax,.int .i64 t.gross,.imm (t.parts.map Part.enc)]] S K=K (.bool (bU t)) S:=by
 refine (bLn rfl ?_).eq S K
 delta Tryz.f167;simp only [↓cw,↓reduceIte,Nat.reduceLT,kk,bU]
 by_cases c1:t.parts.length<1
 ·simp only [↓cw,↓reduceIte,Nat.reduceLT,c1,show (t.parts.length:Int)<1 by omega,kk,oo,if_true]
 by_cases c2:12<t.parts.length
 ·simp only [↓cw,↓reduceIte,Nat.reduceLT,c1,c2,show ¬ (t.parts.length:Int)<1 by omega,show (12:Int)<(t.parts.length:Int) by omega,kk,oo,if_true,if_false]
 simp only [↓cw,↓reduceIte,Nat.reduceLT,c1,c2,show ¬ (t.parts.length:Int)<1 by omega,show ¬ (12:Int)<(t.parts.length:Int) by omega,kk,if_false]
 refine aF t.parts (step:=cE) (fin:=fun _=>iD t) (fun i s vs S=>vs=[.bool false,.int .i64 (i:Int)]∧s=bX t.parts i∧aA S 0 0=.ok (4,[[.int .i64 t.net,.int .i64 t.tax,.int .i64 t.gross,.imm (t.parts.map Part.enc)]])∧0<S.next) (fun r=>r=aD cE (fun _=>iD t) t.parts none) ?_ ?_ (s:=none) ⟨rfl,rfl,aC _ _ _ _ _ _,Nat.zero_lt_one⟩ rfl
 ·rintro i p s vs S hi ⟨rfl,rfl,r0,h0⟩ aE H
  have hil:=(List.getElem?_eq_some_iff.1 hi).1
  have r1:∀ (m:Nat) (b c:Blk),aA ⟨m,(S.heap.put S.next b).put S.next c⟩ 0 0=.ok (4,[[.int .i64 t.net,.int .i64 t.tax,.int .i64 t.gross,.imm (t.parts.map Part.enc)]]):=fun m b c=>aG (n:=S.next) (by omega) (aG (n:=S.next) (by omega) r0)
  have hn:bX t.parts (i+1)=some p:=by simpa [bX] using hi
  simp only [hn,cE] at H
  simp only [↓cw,↓reduceIte,Nat.reduceLT,kk,bL hi,iT hi,Part.enc,iE (show i<1000000000 by omega),aUx,bIs,dF,r1,oo]
  obtain ⟨S',hS'⟩:∃ S':St,S'=⟨S.next+1+30,(S.heap.put S.next (.row 0 4 [[.str [],.int .i64 0,.int .i64 0,.int .i64 0]])).put S.next (.row 0 4 [[.str p.cat,.int .i64 p.bp,.int .i64 p.net,.int .i64 p.tax]])⟩:=⟨_,rfl⟩
  have r2:aA S' 0 0=.ok (4,[[.int .i64 t.net,.int .i64 t.tax,.int .i64 t.gross,.imm (t.parts.map Part.enc)]]):=by rw [hS'];exact r1 _ _ _
  have h2:0<S'.next:=by rw [hS'];exact Nat.succ_pos _
  rw [←hS']
  clear hS' r1
  cases hna:cW p.cat
  ·simp only [↓cw,↓reduceIte,Nat.reduceLT,hna,kk,if_true] at H ⊢
   rw [←H]
  ·simp only [↓cw,↓reduceIte,Nat.reduceLT,hna,kk,Bool.true_eq_false,if_false] at H ⊢
   cases i with
   | zero=>
    simp only [↓cw,↓reduceIte,Nat.reduceLT,bX,gB,kk,Bool.false_eq_true,if_false,if_true,tY,tZ,Bool.or_eq_true,decide_eq_true_eq] at H ⊢
    simp only [↓cw,↓reduceIte,Nat.reduceLT,Int.natCast_zero,Int.lt_irrefl,kk,if_false]
    grind
   | succ j=>
    have hj:t.parts[j]?=some t.parts[j]:=List.getElem?_eq_getElem (by omega)
    have hp:bX t.parts (j+1)=some t.parts[j]:=by simp [bX,hj]
    simp only [↓cw,↓reduceIte,Nat.reduceLT,hp,gt0,kk,wrm (show j+1<1000000000 by omega),iT hj,Part.enc,gB,tY,tZ,Bool.or_eq_true,decide_eq_true_eq] at H ⊢
    grind
 ·rintro s vs S ⟨rfl,rfl,r0,h0⟩ aE H
  have H':aD cE (fun _=>iD t) t.parts none=iD t:=H.symm
  simp only [↓cw,↓reduceIte,Nat.reduceLT,kk,Int.lt_irrefl,if_false,r0,bP0 t (show t.parts.length<100000 by omega),oo,H']
theorem bP2 (l r:List Part) (hb:l.length<1000000) (S:St) (K:KW):C 260 [.imm (l.map Part.enc),.imm (r.map Part.enc)] S K=K (.bool (decide (l=r))) S:=by
 refine (bN1 rfl ?_).eq S K
 delta Tryz.f260;simp only [↓cw,↓reduceIte,Nat.reduceLT,kk]
 by_cases h:l.length=r.length
 ·simp only [↓cw,↓reduceIte,Nat.reduceLT,show (l.length:Int)=(r.length:Int) by omega,kk,not_true_eq_false,if_false]
  refine aF l (step:=kL r) (fin:=fun _=>true) (fun i n vs S=>n=i∧vs=[.bool false,.int .i64 (i:Int)]) (fun x=>x=decide (l=r)) ?_ ?_ (s:=0) ⟨rfl,rfl⟩ (eqL h)
  ·rintro i p n vs S hi ⟨rfl,rfl⟩ aE H
   have hil:=(List.getElem?_eq_some_iff.1 hi).1
   have hj:r[n]?=some r[n]:=List.getElem?_eq_getElem (by omega)
   have hlt:((n:Int)<(r.length:Int))=True:=bL hj
   have he:(r[n]=p)=(((p.cat=r[n].cat∧p.bp=r[n].bp)∧p.net=r[n].net)∧p.tax=r[n].tax):=by
    obtain ⟨_,_,_,_⟩:=p;generalize r[n]=q;obtain ⟨_,_,_,_⟩:=q;simp [and_assoc,eq_comm]
   simp only [kL,hj,Option.some.injEq,he] at H
   simp only [↓cw,↓reduceIte,Nat.reduceLT,kk,hlt,iT hi,iT hj,Part.enc,iE (show n<1000000000 by omega),oo]
   grind
  ·rintro n vs S ⟨rfl,rfl⟩ aE H
   simp only [↓cw,↓reduceIte,Nat.reduceLT,kk,h,Int.lt_irrefl,if_false,oo,←H]
 ·simp only [↓cw,↓reduceIte,Nat.reduceLT,show ¬ (l.length:Int)=(r.length:Int) by omega,kk,not_false_eq_true,if_true,oo]
  have:decide (l=r)=false:=by simpa using fun e=>h (by rw [e])
  rw [this]
def Posted.enc (p:Posted):List V:=[.str p.ref.ser,.int .i64 p.ref.num,.int .i64 p.day.y,.int .i64 p.day.m,.int .i64 p.day.d,.int .i64 p.total.net,.int .i64 p.total.tax,.int .i64 p.total.gross,.imm (p.total.parts.map Part.enc),.str p.of.ser,.int .i64 p.of.num,.bool p.back]
theorem lN {l:List Posted} {i:Nat} {a:Posted} (hi:l[i]?=some a) (k:IntKind):gS 12 (.imm (l.map Posted.enc)) (.int k (i:Int))=.ok (.iptr a.enc 0):=ixI (enc:=Posted.enc) hi rfl k
theorem aHx (x:Posted):x.enc.length=12∧aH x.enc=true:=⟨rfl,rfl⟩
theorem Total.ext_iff (a b:Total):(a=b)=(((a.net=b.net∧a.tax=b.tax)∧a.gross=b.gross)∧a.parts=b.parts):=by
 obtain ⟨_,_,_,_⟩:=a;obtain ⟨_,_,_,_⟩:=b;simp [and_assoc]
theorem Ref.ext_iff (a b:Ref):(a=b)=(a.ser=b.ser∧a.num=b.num):=by
 obtain ⟨_,_⟩:=a;obtain ⟨_,_⟩:=b;simp
theorem g91 (l r:List Bal) (hb:l.length<1000000) (S:St) (K:KW):C 91 [.imm (l.map Bal.enc),.imm (r.map Bal.enc)] S K=K (.bool (decide (l=r))) S:=by
 refine (v91 rfl ?_).eq S K
 delta Tryz.f91;simp only [↓cw,↓reduceIte,Nat.reduceLT,kk]
 by_cases h:l.length=r.length
 ·simp only [↓cw,↓reduceIte,Nat.reduceLT,show (l.length:Int)=(r.length:Int) by omega,kk,not_true_eq_false,if_false]
  refine aF l (step:=kL r) (fin:=fun _=>true) (fun i n vs S=>n=i∧vs=[.bool false,.int .i64 (i:Int)]) (fun x=>x=decide (l=r)) ?_ ?_ (s:=0) ⟨rfl,rfl⟩ (eqL h)
  ·rintro i p n vs S hi ⟨rfl,rfl⟩ aE H
   have hil:=(List.getElem?_eq_some_iff.1 hi).1
   have hj:r[n]?=some r[n]:=List.getElem?_eq_getElem (by omega)
   have hlt:((n:Int)<(r.length:Int))=True:=bL hj
   have he:(r[n]=p)=(p.acc=r[n].acc∧p.amount=r[n].amount):=by
    obtain ⟨_,_⟩:=p;generalize r[n]=q;obtain ⟨_,_⟩:=q;simp [and_assoc,eq_comm]
   simp only [kL,hj,Option.some.injEq,he] at H
   simp only [↓cw,↓reduceIte,Nat.reduceLT,kk,hlt,oC hi,oC hj,Bal.enc,iE (show n<1000000000 by omega),oo]
   grind
  ·rintro n vs S ⟨rfl,rfl⟩ aE H
   simp only [↓cw,↓reduceIte,Nat.reduceLT,kk,h,Int.lt_irrefl,if_false,oo,←H]
 ·simp only [↓cw,↓reduceIte,Nat.reduceLT,show ¬ (l.length:Int)=(r.length:Int) by omega,kk,not_false_eq_true,if_true,oo]
  have:decide (l=r)=false:=by simpa using fun e=>h (by rw [e])
  rw [this]
theorem bP3 (a b:Total) (hb:a.parts.length<1000000) (S:St) (K:KW):C 229 [.agg [.int .i64 a.net,.int .i64 a.tax,.int .i64 a.gross,.imm (a.parts.map Part.enc)],.agg [.int .i64 b.net,.int .i64 b.tax,.int .i64 b.gross,.imm (b.parts.map Part.enc)]] S K=K (.bool (decide (a=b))) S:=by
 refine (bMo rfl ?_).eq S K
 delta Tryz.f229;simp only [↓cw,↓reduceIte,Nat.reduceLT,kk,iI,bP2 a.parts b.parts hb,Total.ext_iff,oo]
 grind
theorem bP4 (p fr:Posted) (hb:fr.total.parts.length≤1000) (S:St) (K:KW):C 169 [.agg [.str p.ref.ser,.int .i64 p.ref.num,.int .i64 p.day.y,.int .i64 p.day.m,.int .i64 p.day.d,.int .i64 p.total.net,.int .i64 p.total.tax,.int .i64 p.total.gross,.imm (p.total.parts.map Part.enc),.str p.of.ser,.int .i64 p.of.num,.bool p.back],.agg [.str fr.ref.ser,.int .i64 fr.ref.num,.int .i64 fr.day.y,.int .i64 fr.day.m,.int .i64 fr.day.d,.int .i64 fr.total.net,.int .i64 fr.total.tax,.int .i64 fr.total.gross,.imm (fr.total.parts.map Part.enc),.str fr.of.ser,.int .i64 fr.of.num,.bool fr.back]] S K=K (.bool (jQ p fr)) S:=by
 refine (bLp rfl ?_).eq S K
 have hbl:=uA fr.total
 delta Tryz.f169;simp only [↓cw,↓reduceIte,Nat.reduceLT,kk,iI,bJj fr.total hb,aB3,aXy,bP3 (aV fr.total).1 p.total (by omega),jQ,Ref.ext_iff,Ref.zero,oo]
 grind
theorem bJk:dM prog 227=some none:=by kernel_rfl
theorem bP5 (r:Ref) (p:Posted):Fr 227 (fun a=>[.agg p.enc,.ptr a 0 0 0]) 2 [.str r.ser,.int .i64 r.num] (.bool (decide (p.ref=r))) [.str r.ser,.int .i64 r.num]:=by
 refine FnR.of bEo (lv:=jL []) (Pt.next rfl (Pt.head rfl)) rfl ?_ rfl rfl
 rw [bMm]
 delta Tryz.f227;simp only [↓cw,↓reduceIte,Nat.reduceLT,kk,Posted.enc,iI,Ref.ext_iff]
 exact ⟨by congr 1;rw [Bool.eq_iff_iff];simp,rfl⟩
theorem bP6 (fk:Nat) (ht:dM prog fk=some none) {n:Nat} {cap:List V} (p:Posted→Bool) (hf:∀ s:Posted,Fr fk (fun a=>[.agg s.enc,.ptr a 0 0 0]) n cap (.bool (p s)) cap) (l:List Posted) (hb:l.length<1000000) {S:St} {a:Nat} (hg:S.heap.get a=some (.row 0 n [cap])):
  ∀ K:KW,C 155 [.imm (l.map Posted.enc),.func fk [] [.ptr a 0 0 0]] S K=K (.int .i64 (ixM p l)) S:=by
 refine bIw (bLf ?_)
 delta Tryz.f155;simp only [↓cw,↓reduceIte,Nat.reduceLT,kk]
 refine aF l (step:=cU p) (fin:=fun _=>-1) (fun i k vs X=>k=i∧vs=[.int .i64 0,.int .i64 (i:Int)]∧X=S) (fun r=>r=ixM p l) ?_ ?_ ⟨rfl,rfl,rfl⟩ rfl
 ·rintro i s k vs X hi ⟨rfl,rfl,rfl⟩ aE H
  have hil:=(List.getElem?_eq_some_iff.1 hi).1
  have he:=(hf s).eq_same hg
  simp only [Posted.enc] at he
  simp only [↓cw,↓reduceIte,Nat.reduceLT,kk,bL hi,lN hi,Posted.enc,↓aCy prog C ht,List.nil_append,List.cons_append,he,iE (show k<1000000000 by omega)]
  simp only [cU] at H
  cases hp:p s<;>simp only [↓cw,↓reduceIte,Nat.reduceLT,hp,kk] at H ⊢
  ·exact H _ _ ⟨rfl,rfl⟩
  ·rw [H]
 ·rintro k vs X ⟨rfl,rfl,rfl⟩ aE H
  simp only [↓cw,↓reduceIte,Nat.reduceLT,kk,Int.lt_irrefl]
  rw [H]
theorem f168 (l:List Posted) (r:Ref) (hb:l.length<1000000):Fv 168 [.imm (l.map Posted.enc),.agg [.str r.ser,.int .i64 r.num]] (.int .i64 (aX l r)):=by
 refine bLo rfl ?_
 have h:=bP6 227 bJk _ (bP5 r) l hb (S:=⟨1,Tr.nil.put 0 (.row 0 2 [[.str r.ser,.int .i64 r.num]])⟩) (a:=0) (Tr.get_put_sameB _ _ _ trivial)
 delta Tryz.f168;simp only [↓cw,↓reduceIte,Nat.reduceLT,kk,h,aX]
theorem bP7 (l:List Posted) (r:Ref) (hb:l.length<1000000) (S:St) (K:KW):C 168 [.imm (l.map Posted.enc),.agg [.str r.ser,.int .i64 r.num]] S K=K (.int .i64 (aX l r)) S:=(f168 l r hb).eq S K
theorem bJl:(fun (a ver i j:Nat) (x:V)=>cV prog 246 (.ptr a ver i j) x)=fun a ver i j x=>(match mO x 40 with
 | none=>.error "index"
 | some k=>.ok (.ptr a ver i (j+k*1))):=by kernel_rfl
theorem aV2 (a ver i j:Nat) {k:Nat} (h:k<40):cV prog 246 (.ptr a ver i j) (.int .i64 (k:Int))=.ok (.ptr a ver i (j+k)):=by
 have:=congrFun (congrFun (congrFun (congrFun (congrFun bJl a) ver) i) j) (.int .i64 (k:Int))
 rw [jJ h] at this
 rw [this]
 simp only [Nat.mul_one]
theorem bJm:(fun (a ver i j:Nat) (x:V)=>cV prog 249 (.ptr a ver i j) x)=fun a ver i j x=>(match mO x 8 with
 | none=>.error "index"
 | some k=>.ok (.ptr a ver i (j+k*1))):=by kernel_rfl
theorem aV3 (a ver i j:Nat) {k:Nat} (h:k<8):cV prog 249 (.ptr a ver i j) (.int .i64 (k:Int))=.ok (.ptr a ver i (j+k)):=by
 have:=congrFun (congrFun (congrFun (congrFun (congrFun bJm a) ver) i) j) (.int .i64 (k:Int))
 rw [jJ h] at this
 rw [this]
 simp only [Nat.mul_one]
theorem aV4 {l:List Int} {k:Nat} (h:k<l.length):(l.map pC)[k]?=some (.int .i64 l[k]):=by
 rw [List.getElem?_map,List.getElem?_eq_getElem h];rfl
theorem bJn {l:List Int} {k:Nat} (h:k<l.length) (x:Int):sX (l.map pC) k [.int .i64 x]=some ((l.set k x).map pC):=by
 have hl:(l.map pC).length=l.length:=List.length_map ..
 rw [yP,if_pos (by rw [hl];exact h),List.map_set]
 simp only [splice,List.length_cons,List.length_nil]
 rw [List.set_eq_take_append_cons_drop,if_pos (by rw [hl];exact h)]
 rfl
def State.enc (s:State):List V:=[.imm (s.table.map Rate.enc),.imm (s.ser.map Ser.enc),.imm (s.posted.map Posted.enc),.imm (s.book.map Bal.enc),.imm (s.sess.map Sess.enc),.int .i64 s.next]
theorem bJo:dM prog 170=some none:=by kernel_rfl
theorem bP8 (p:Posted) (s:Ser):Fr 170 (fun a=>[.agg s.enc,.ptr a 0 0 0]) 12 p.enc (.bool (s.name == p.ref.ser)) p.enc:=by
 refine FnR.of bEk (lv:=jL []) (Pt.next rfl (Pt.head rfl)) rfl ?_ rfl rfl
 rw [bLq]
 delta Tryz.f170;simp only [↓cw,↓reduceIte,Nat.reduceLT,kk,Posted.enc,Ser.enc,iI]
 rfl
theorem z8:[V.int .i64 0,.int .i64 0,.int .i64 0,.int .i64 0,.int .i64 0,.int .i64 0,.int .i64 0,.int .i64 0]=(List.replicate 8 (0:Int)).map pC:=rfl
theorem g89 (s:State) (h8:s.ser.length≤8) (h40:s.posted.length≤40) (S:St) (K:KW):C 89 [.agg [.imm (s.table.map Rate.enc),.imm (s.ser.map Ser.enc),.imm (s.posted.map Posted.enc),.imm (s.book.map Bal.enc),.imm (s.sess.map Sess.enc),.int .i64 s.next]] S K=K (.bool (mZ s.ser s.posted)) S:=by
 refine (v89 rfl ?_).eq S K
 delta Tryz.f89;simp only [↓cw,↓reduceIte,Nat.reduceLT,kk,iI,z8]
 refine aF s.posted (step:=kR s.ser) (fin:=fun is=>aD jR (fun _=>true) s.ser is) (fun i is vs S=>vs=[.bool false,.int .i64 (i:Int)]∧aA S 0 0=.ok (6,[s.enc])∧aA S 1 0=.ok (8,[is.map pC])∧is.length=8∧(∀ b∈is,0≤b∧b≤i)∧2≤S.next) (fun r=>r=mZ s.ser s.posted) ?_ ?_ (s:=List.replicate 8 0) ⟨rfl,rfl,rfl,rfl,fun b hb=>by rw [List.eq_of_mem_replicate hb];omega,Nat.le_refl _⟩ rfl
 ·rintro i p is vs S hi ⟨rfl,hc,hg,hbl,hbr,h2⟩ aE H
  have hil:=(List.getElem?_eq_some_iff.1 hi).1
  have z0:((0:Nat)=S.next)=False:=by simp;omega
  have z1:((1:Nat)=S.next)=False:=by simp;omega
  have zn:(S.next=1)=False:=by simp;omega
  obtain ⟨S1,hS1⟩:∃ S1:St,S1=⟨S.next+1,(S.heap.put S.next (.row 0 12 [yL])).put S.next (.row 0 12 [p.enc])⟩:=⟨_,rfl⟩
  have e1:S1.heap.get S.next=some (.row 0 12 [p.enc]):=by rw [hS1];exact Tr.get_put_sameB _ _ _ trivial
  have n1:S1.next=S.next+1:=by rw [hS1]
  have c1:aA S1 0 0=.ok (6,[s.enc]):=by rw [hS1];exact aG (n:=S.next) (by omega) (aG (n:=S.next) (by omega) hc)
  have g1:aA S1 1 0=.ok (8,[is.map pC]):=by rw [hS1];exact aG (n:=S.next) (by omega) (aG (n:=S.next) (by omega) hg)
  have p1:aA S1 S.next 0=.ok (12,[p.enc]):=bW e1
  have h152:=bIx 170 bJo _ (bP8 p) s.ser (by omega) (a:=S.next) e1
  have hx:ixM (fun t:Ser=>t.name == p.ref.ser) s.ser=dE s.ser p.ref.ser:=rfl
  rw [hx] at h152
  simp only [kR] at H
  simp only [yL,Posted.enc] at hS1
  simp only [↓cw,↓reduceIte,Nat.reduceLT,kk,bL hi,lN hi,Posted.enc,←hS1,c1,State.enc,h152]
  rcases lA s.ser p.ref.ser with hk | ⟨k,f,hk,hf,_⟩
  ·simp only [↓cw,↓reduceIte,Nat.reduceLT,hk,show (-1:Int)<0 by decide,kk,if_true] at H ⊢
   rw [←H]
  have hks:k<s.ser.length:=(List.getElem?_eq_some_iff.1 hf).1
  have hk8:k<8:=by omega
  have hkb:k<is.length:=by omega
  have hbk:=hbr is[k] (List.getElem_mem hkb)
  have hw2:wr .i64 (is[k]+1)=is[k]+1:=mU (by omega) (by omega)
  have hbu:bump is k=is.set k (is[k]+1):=by unfold bump;rw [yM is k hkb]
  have hkb':k<(bump is k).length:=by rw [yN];exact hkb
  have hgk:=aUt is k hkb
  have hgk2:(bump is k)[k]=is[k]+1:=by rw [←yM _ _ hkb'];exact hgk
  have g2:aA ⟨S1.next+7,S1.heap.put 1 (.row 0 8 [(bump is k).map pC])⟩ 1 0=.ok (8,[(bump is k).map pC]):=aC _ _ _ _ _ _
  have p2:aA ⟨S1.next+7,S1.heap.put 1 (.row 0 8 [(bump is k).map pC])⟩ S.next 0=.ok (12,[p.enc]):=aG (n:=S1.next) (by omega) p1
  have c2:aA ⟨S1.next+7,S1.heap.put 1 (.row 0 8 [(bump is k).map pC])⟩ 0 0=.ok (6,[s.enc]):=aG (n:=S1.next) (by decide) c1
  simp only [Posted.enc] at p2
  simp only [↓cw,↓reduceIte,Nat.reduceLT,hk,show ¬ (k:Int)<0 by omega,kk,if_false,Int.toNat_natCast,hgk] at H ⊢
  simp only [↓cw,↓reduceIte,Nat.reduceLT,aV3 _ _ _ _ hk8,kk,g1,aV4 hkb,aV4 hkb',hw2,bJn hkb,←hbu,g2,p2,hgk2,iE (show i<1000000000 by omega)]
  by_cases c:p.ref.num=is[k]+1
  ·simp only [↓cw,↓reduceIte,Nat.reduceLT,c,kk,if_true,if_false,not_true_eq_false] at H ⊢
   refine H _ _ ⟨rfl,c2,g2,by rw [yN];exact hbl,fun b hb=>?_,by show 2≤S1.next+7;omega⟩
   rw [hbu] at hb
   rcases List.mem_or_eq_of_mem_set hb with hb | rfl
   ·exact ⟨(hbr b hb).1,by have:=(hbr b hb).2;omega⟩
   ·omega
  ·simp only [↓cw,↓reduceIte,Nat.reduceLT,c,kk,if_true,if_false,not_false_eq_true] at H ⊢
   rw [←H]
 ·rintro is vs S ⟨rfl,hc,hg,hbl,hbr,h2⟩ aE H
  have H':mZ s.ser s.posted=aD jR (fun _=>true) s.ser is:=H.symm
  simp only [↓cw,↓reduceIte,Nat.reduceLT,kk,Int.lt_irrefl,if_false,hc,State.enc,H']
  refine aF s.ser (step:=jR) (fin:=fun _=>true) (fun i st vs S=>vs=[.bool false,.int .i64 (i:Int)]∧st=is.drop i∧aA S 1 0=.ok (8,[is.map pC])∧2≤S.next) (fun r=>r=aD jR (fun _=>true) s.ser is) ?_ ?_ (s:=is) ⟨rfl,rfl,hg,h2⟩ rfl
  ·rintro i q st vs S hi ⟨rfl,rfl,hg,h2⟩ aE H
   have hil:=(List.getElem?_eq_some_iff.1 hi).1
   have hi8:i<8:=by omega
   have hib:i<is.length:=by omega
   have z1:((1:Nat)=S.next)=False:=by simp;omega
   have hbi:=hbr is[i] (List.getElem_mem hib)
   have hw2:wr .i64 (is[i]+1)=is[i]+1:=mU (by omega) (by omega)
   have hhd:(is.drop i).headD 0=is[i]:=by rw [List.drop_eq_getElem_cons hib];rfl
   have htl:(is.drop i).tail=is.drop (i+1):=by rw [List.drop_eq_getElem_cons hib];rfl
   have g1:∀ m b c,aA ⟨m,(S.heap.put S.next b).put S.next c⟩ 1 0=.ok (8,[is.map pC]):=fun m b c=>aG (n:=S.next) (by omega) (aG (n:=S.next) (by omega) hg)
   simp only [jR,hhd,htl] at H
   simp only [↓cw,↓reduceIte,Nat.reduceLT,kk,bL hi,lU hi,Ser.enc,aV3 _ _ _ _ hi8,g1,aV4 hib,hw2,iE (show i<1000000000 by omega)]
   by_cases c:q.next=is[i]+1
   ·simp only [↓cw,↓reduceIte,Nat.reduceLT,c,kk,if_true,if_false,not_true_eq_false] at H ⊢
    exact H _ _ ⟨rfl,g1 _ _ _,by show 2≤S.next+1+7;omega⟩
   ·simp only [↓cw,↓reduceIte,Nat.reduceLT,c,kk,if_true,if_false,not_false_eq_true] at H ⊢
    simp only [oo,←H]
  ·rintro st vs S ⟨rfl,rfl,hg,h2⟩ aE H
   simp only [↓cw,↓reduceIte,Nat.reduceLT,kk,Int.lt_irrefl,if_false,oo,←H]
theorem z40:[V.int .i64 0,.int .i64 0,.int .i64 0,.int .i64 0,.int .i64 0,.int .i64 0,.int .i64 0,.int .i64 0,.int .i64 0,.int .i64 0,.int .i64 0,.int .i64 0,.int .i64 0,.int .i64 0,.int .i64 0,.int .i64 0,.int .i64 0,.int .i64 0,.int .i64 0,.int .i64 0,.int .i64 0,.int .i64 0,.int .i64 0,.int .i64 0,.int .i64 0,.int .i64 0,.int .i64 0,.int .i64 0,.int .i64 0,.int .i64 0,.int .i64 0,.int .i64 0,.int .i64 0,.int .i64 0,.int .i64 0,.int .i64 0,.int .i64 0,.int .i64 0,.int .i64 0,.int .i64 0]=(List.replicate 40 (0:Int)).map pC:=rfl
theorem bJp (l:List Posted) {i:Nat} (hi:i<l.length):iF prog 26 (.imm (l.map Posted.enc)) none (some (.int .i64 (i:Int)))=.ok (.imm ((l.take i).map Posted.enc)):=by
 have hb:fR (l.map Posted.enc).length none (some (.int .i64 (i:Int)))=.ok (0,i):=by
  have:(decide ((0:Int)≤(i:Int))&&decide ((i:Int)≤((l.map Posted.enc).length:Int)))=true:=by simp;omega
  simp only [fR,this,cond_true,Int.toNat_natCast]
 rw [bHo _ (cY (n:=12) (fun c hc=>by obtain ⟨x,_,rfl⟩:=List.mem_map.1 hc;exact aHx x)).1,hb]
 simp only [List.drop_zero,Nat.sub_zero,List.map_take]
theorem aQq:(fun (a b:Bool)=>bQ prog .neq 4 (.bool a) (.bool b))=fun a b=>.ok (.bool (!(a == b))):=by kernel_rfl
theorem aFq (a b:Bool):bQ prog .neq 4 (.bool a) (.bool b)=.ok (.bool (!(a == b))):=congrFun (congrFun aQq a) b
theorem g88 (l:List Posted) (S:St) (K:KW):C 88 [.imm (l.map Posted.enc)] S K=K (.bool (iP l)) S:=by
 refine (v88 rfl ?_).eq S K
 delta Tryz.f88;simp only [↓cw,↓reduceIte,Nat.reduceLT,kk,iP]
 by_cases h40:40<l.length
 ·simp only [↓cw,↓reduceIte,Nat.reduceLT,h40,show (40:Int)<(l.length:Int) by omega,kk,if_true,oo]
 simp only [↓cw,↓reduceIte,Nat.reduceLT,h40,show ¬ (40:Int)<(l.length:Int) by omega,kk,if_false,z40]
 refine aF l (step:=fZ) (fin:=fun st=>aD gX (fun _=>true) l st.2) (fun i st vs S=>vs=[.bool false,.int .i64 (i:Int)]∧aA S 0 0=.ok (40,[st.2.map pC])∧st.1=l.take i∧st.2.length=40∧(∀ b∈st.2,0≤b∧b≤i)∧(∀ p∈st.1,p.total.parts.length≤12)∧0<S.next) (fun r=>r=aD fZ (fun st=>aD gX (fun _=>true) l st.2) l ([],List.replicate 40 0)) ?_ ?_ (s:=([],List.replicate 40 0)) ⟨rfl,rfl,rfl,rfl,fun b hb=>by rw [List.eq_of_mem_replicate hb];omega,(fun p h=>(by cases h)),Nat.zero_lt_one⟩ rfl
 ·rintro i p ⟨done,bs⟩ vs S hi ⟨rfl,hg,hdone,hbl,hbr,hfi,h0⟩ aE H
  simp only at hg hdone hbl hbr hfi
  have hil:=(List.getElem?_eq_some_iff.1 hi).1
  obtain ⟨S1,hS1⟩:∃ S1:St,S1=⟨S.next+1,(S.heap.put S.next (.row 0 12 [yL])).put S.next (.row 0 12 [p.enc])⟩:=⟨_,rfl⟩
  have n1:S1.next=S.next+1:=by rw [hS1]
  have g1:aA S1 0 0=.ok (40,[bs.map pC]):=by rw [hS1];exact aG (n:=S.next) (by omega) (aG (n:=S.next) (by omega) hg)
  have p1:aA S1 S.next 0=.ok (12,[p.enc]):=by rw [hS1];exact aC _ _ _ _ _ _
  have hdone':(done++[p])=l.take (i+1):=by
   rw [hdone,List.take_succ_eq_append_getElem hil,(List.getElem?_eq_some_iff.1 hi).2]
  simp only [fZ,Ref.ext_iff,Ref.zero] at H
  simp only [yL,Posted.enc] at hS1
  simp only [Posted.enc] at p1
  simp only [↓cw,↓reduceIte,Nat.reduceLT,kk,bL hi,lN hi,Posted.enc,←hS1,gm,p1,aJn,bP1,iE (show i<1000000000 by omega),bJp l hil,oo]
  cases h1:p.day.right
  ·simp only [↓cw,↓reduceIte,Nat.reduceLT,h1,kk,if_true] at H ⊢
   rw [←H]
  cases h2:bU p.total
  ·simp only [↓cw,↓reduceIte,Nat.reduceLT,h1,h2,kk,Bool.true_eq_false,if_true,if_false] at H ⊢
   rw [←H]
  simp only [↓cw,↓reduceIte,Nat.reduceLT,h1,h2,kk,Bool.true_eq_false,if_false] at H ⊢
  have hfi':∀ q∈done++[p],q.total.parts.length≤12:=fun q hq=>by
   rcases List.mem_append.1 hq with hq | hq
   ·exact hfi q hq
   ·rw [List.mem_singleton.1 hq];exact nX h2
  by_cases h3:p.of.ser=[]∧p.of.num=0
  ·simp only [↓cw,↓reduceIte,Nat.reduceLT,h3,and_self,BEq.rfl,decide_true,Bool.and_self,kk,if_true] at H ⊢
   exact H _ _ ⟨rfl,g1,hdone',hbl,fun b hb=>⟨(hbr b hb).1,by have:=(hbr b hb).2;omega⟩,hfi',by omega⟩
  have h3':¬ (p.of.ser == []&&decide (p.of.num=0))=true:=by simpa using h3
  have hdl:done.length≤i:=by rw [hdone,List.length_take];omega
  simp only [↓cw,↓reduceIte,Nat.reduceLT,h3,h3',if_false,bP7 done p.of (show done.length<1000000 by omega),←hdone,kk,gm,p1] at H ⊢
  rcases mE done p.of with hk | ⟨k,f,hk,hf,_⟩
  ·simp only [↓cw,↓reduceIte,Nat.reduceLT,hk,show (-1:Int)<0 by decide,kk,if_true] at H ⊢
   rw [←H]
  have hkd:=(List.getElem?_eq_some_iff.1 hf).1
  have hki:k<i:=by omega
  have hlk:l[k]?=some f:=by rw [hdone,List.getElem?_take,if_pos hki] at hf;exact hf
  have hfl:f.total.parts.length≤12:=hfi f (List.mem_of_getElem? hf)
  have hgd:∀ d,done.getD k d=f:=fun d=>by rw [List.getD_eq_getElem?_getD,hf];rfl
  have hkb:k<bs.length:=by omega
  have hk40:k<40:=by omega
  have hbk:=hbr bs[k] (List.getElem_mem hkb)
  have hw2:wr .i64 (bs[k]+1)=bs[k]+1:=mU (by omega) (by omega)
  have hbu:bump bs k=bs.set k (bs[k]+1):=by unfold bump;rw [yM bs k hkb]
  have g2:aA ⟨S1.next+7+11,S1.heap.put 0 (.row 0 40 [(bump bs k).map pC])⟩ 0 0=.ok (40,[(bump bs k).map pC]):=aC _ _ _ _ _ _
  simp only [↓cw,↓reduceIte,Nat.reduceLT,hk,show ¬ (k:Int)<0 by omega,kk,if_false,Int.toNat_natCast,hgd,lN hlk,Posted.enc,bP4 p f (show f.total.parts.length≤1000 by omega)] at H ⊢
  cases h4:jQ p f
  ·simp only [↓cw,↓reduceIte,Nat.reduceLT,h4,kk,if_true] at H ⊢
   rw [←H]
  ·simp only [↓cw,↓reduceIte,Nat.reduceLT,h4,kk,Bool.true_eq_false,if_false,aV2 _ _ _ _ hk40,gm,g1,aV4 hkb,hw2,bJn hkb,←hbu] at H ⊢
   refine H _ _ ⟨rfl,g2,hdone',by rw [yN];exact hbl,fun b hb=>?_,hfi',Nat.succ_pos _⟩
   rw [hbu] at hb
   rcases List.mem_or_eq_of_mem_set hb with hb | rfl
   ·exact ⟨(hbr b hb).1,by have:=(hbr b hb).2;omega⟩
   ·omega
 ·rintro ⟨done,bs⟩ vs S ⟨rfl,hg,hdone,hbl,hbr,hfi,h0⟩ aE H
  simp only at hg hbl
  have H':aD fZ (fun st=>aD gX (fun _=>true) l st.2) l ([],List.replicate 40 0)=aD gX (fun _=>true) l bs:=H.symm
  simp only [↓cw,↓reduceIte,Nat.reduceLT,kk,Int.lt_irrefl,if_false,H']
  refine aF l (step:=gX) (fin:=fun _=>true) (fun i st vs S=>vs=[.bool false,.int .i64 (i:Int)]∧st=bs.drop i∧aA S 0 0=.ok (40,[bs.map pC])∧0<S.next) (fun r=>r=aD gX (fun _=>true) l bs) ?_ ?_ (s:=bs) ⟨rfl,rfl,hg,h0⟩ rfl
  ·rintro i p st vs S hi ⟨rfl,rfl,hg,h0⟩ aE H
   have hil:=(List.getElem?_eq_some_iff.1 hi).1
   have hi40:i<40:=by omega
   have hib:i<bs.length:=by omega
   have hhd:(bs.drop i).headD 0=bs[i]:=by rw [List.drop_eq_getElem_cons hib];rfl
   have htl:(bs.drop i).tail=bs.drop (i+1):=by rw [List.drop_eq_getElem_cons hib];rfl
   have g1:∀ m b c,aA ⟨m,(S.heap.put S.next b).put S.next c⟩ 0 0=.ok (40,[bs.map pC]):=fun m b c=>aG (n:=S.next) (by omega) (aG (n:=S.next) (by omega) hg)
   simp only [gX,hhd,htl] at H
   simp only [↓cw,↓reduceIte,Nat.reduceLT,kk,bL hi,lN hi,Posted.enc,aV2 _ _ _ _ hi40,g1,aV4 hib,aFq,iE (show i<1000000000 by omega)]
   by_cases c1:1<bs[i]
   ·simp only [↓cw,↓reduceIte,Nat.reduceLT,c1,kk,if_true] at H ⊢
    simp only [oo,←H]
   ·by_cases c2:p.back=decide (bs[i]=1)
    ·simp only [↓cw,↓reduceIte,Nat.reduceLT,c1,c2,kk,if_true,if_false,BEq.rfl,Bool.not_true,Bool.false_eq_true] at H ⊢
     exact H _ _ ⟨rfl,g1 _ _ _,Nat.succ_pos _⟩
    ·have c3:(!(p.back == decide (bs[i]=1)))=true:=by simpa using c2
     simp only [↓cw,↓reduceIte,Nat.reduceLT,c1,c2,c3,kk,if_true,if_false] at H ⊢
     simp only [oo,←H]
  ·rintro st vs S ⟨rfl,rfl,hg,h2⟩ aE H
   simp only [↓cw,↓reduceIte,Nat.reduceLT,kk,Int.lt_irrefl,if_false,oo,←H]
theorem bP9 {v:V} (book l:List Bal) (hv:v=.imm (book.map Bal.enc)∨(v=.nils∧book=[])) (hbb:book.length+l.length<1000000) (S:St) (K:KW):C 158 [v,.imm (l.map Bal.enc)] S K=K (.tup [.imm ((bC book l).1.map Bal.enc),.int .i64 (bC book l).2]) S:=by
 rcases hv with rfl | ⟨rfl,rfl⟩
 ·exact bDo book l hbb S K
 ·exact (Fn.back (args:=[.imm [],.imm (l.map Bal.enc)]) fun S K=>bDo [] l hbb S K).frz bF5 rfl rfl rfl (.inr rfl) K
theorem aJt (l:List Posted):dQ l=aD bG (fun b=>(b,0)) l []:=rfl
theorem g90 (l:List Posted) (hl:l.length≤1000) (hf:∀ p∈l,aJr p.total) (S:St) (K:KW):C 90 [.imm (l.map Posted.enc)] S K=K (.tup [.imm ((dQ l).1.map Bal.enc),.int .i64 (dQ l).2]) S:=by
 refine (v90 rfl ?_).eq S K
 delta Tryz.f90;simp only [↓cw,↓reduceIte,Nat.reduceLT,kk,aJt]
 refine aF l (step:=bG) (fin:=fun b=>(b,0)) (fun i s vs S=>∃ v,vs=[.nils,.int .i64 0,v,.int .i64 (i:Int)]∧(v=.imm (s.map Bal.enc)∨(v=.nils∧s=[]))∧s.length≤25*i) (fun r=>r=aD bG (fun b=>(b,0)) l []) ?_ ?_ (s:=[]) ⟨_,rfl,.inr ⟨rfl,rfl⟩,Nat.zero_le _⟩ rfl
 ·rintro i p s vs S hi ⟨v,rfl,hv,hsl⟩ aE H
  have hil:=(List.getElem?_eq_some_iff.1 hi).1
  have hfp:=hf p (List.mem_of_getElem? hi)
  simp only [bG] at H
  simp only [↓cw,↓reduceIte,Nat.reduceLT,kk,bL hi,lN hi,Posted.enc,bJc p.total hfp,iE (show i<1000000000 by omega)]
  by_cases c1:(cC p.total).2=0
  ·have hel:=(sR p.total).resolve_right (not_not_intro c1)
   have h12:=hfp.1
   have hle:=qU s (cC p.total).1
   simp only [↓cw,↓reduceIte,Nat.reduceLT,c1,kk,not_true_eq_false,if_false,bP9 s _ hv (show s.length+(cC p.total).1.length<1000000 by omega)] at H ⊢
   by_cases c2:(bC s (cC p.total).1).2=0
   ·simp only [↓cw,↓reduceIte,Nat.reduceLT,c2,kk,not_true_eq_false,if_false] at H ⊢
    exact H _ _ ⟨_,rfl,.inl rfl,by omega⟩
   ·simp only [↓cw,↓reduceIte,Nat.reduceLT,c2,kk,not_false_eq_true,if_true] at H ⊢
    simp only [oo,←H,List.map_nil]
  ·simp only [↓cw,↓reduceIte,Nat.reduceLT,c1,kk,not_false_eq_true,if_true] at H ⊢
   simp only [oo,←H,List.map_nil]
 ·rintro s vs S ⟨v,rfl,hv,hsl⟩ aE H
  have H':aD bG (fun b=>(b,0)) l []=(s,0):=H.symm
  simp only [↓cw,↓reduceIte,Nat.reduceLT,kk,Int.lt_irrefl,if_false,H']
  rcases hv with rfl | ⟨rfl,rfl⟩<;>simp only [oo,List.map_nil]
theorem g87 (s:State) (S:St) (K:KW):C 87 [.agg [.imm (s.table.map Rate.enc),.imm (s.ser.map Ser.enc),.imm (s.posted.map Posted.enc),.imm (s.book.map Bal.enc),.imm (s.sess.map Sess.enc),.int .i64 s.next]] S K=K (.bool (gY s)) S:=by
 refine (v87 rfl ?_).eq S K
 delta Tryz.f87;simp only [↓cw,↓reduceIte,Nat.reduceLT,kk,gm,grS,aY1,gY,oo]
 cases h1:eO s.sess
 ·simp only [↓cw,↓reduceIte,Nat.reduceLT,h1,kk,Bool.false_eq_true,if_false]
 have hb:=kI h1
 simp only [↓cw,↓reduceIte,Nat.reduceLT,h1,kk,if_true]
 by_cases h2:1≤s.next
 ·by_cases h3:s.next≤1099511627776
  ·simp only [↓cw,↓reduceIte,Nat.reduceLT,h2,h3,kk,if_true]
   by_cases h4:s.sess.length=0
   ·have:s.sess=[]:=List.length_eq_zero_iff.1 h4
    simp only [↓cw,↓reduceIte,Nat.reduceLT,h4,show ((0:Nat):Int)=0 from rfl,kk,if_true,qV,this]
   ·obtain ⟨j,hj⟩:∃ j,s.sess.length=j+1:=⟨s.sess.length - 1,by omega⟩
    have hjl:s.sess[j]?=some s.sess[j]:=List.getElem?_eq_getElem (by omega)
    simp only [↓cw,↓reduceIte,Nat.reduceLT,h4,hj,show ¬ ((j+1:Nat):Int)=0 by omega,kk,if_false,oo,wrm (show j+1<1000000000 by omega),lM hjl,Sess.enc,qV,Nat.add_sub_cancel,hjl]
  ·simp only [↓cw,↓reduceIte,Nat.reduceLT,h2,h3,kk,if_true,if_false]
 ·simp only [↓cw,↓reduceIte,Nat.reduceLT,h2,kk,if_false]
theorem g24 (s:State) (S:St) (K:KW):C 24 [.agg [.imm (s.table.map Rate.enc),.imm (s.ser.map Ser.enc),.imm (s.posted.map Posted.enc),.imm (s.book.map Bal.enc),.imm (s.sess.map Sess.enc),.int .i64 s.next]] S K=K (.bool (bB s)) S:=by
 refine (v24 rfl ?_).eq S K
 delta Tryz.f24;simp only [↓cw,↓reduceIte,Nat.reduceLT,kk,g85,g86,g87 s,g88,bB,oo]
 cases h1:dW s.table
 ·simp only [↓cw,↓reduceIte,Nat.reduceLT,h1,kk,if_true]
 cases h2:kK s.ser
 ·simp only [↓cw,↓reduceIte,Nat.reduceLT,h2,kk,if_true,Bool.true_eq_false,if_false]
 cases h3:gY s
 ·simp only [↓cw,↓reduceIte,Nat.reduceLT,h3,kk,if_true,Bool.true_eq_false,if_false]
 cases h4:iP s.posted
 ·simp only [↓cw,↓reduceIte,Nat.reduceLT,h4,kk,if_true,Bool.true_eq_false,if_false]
 obtain ⟨h40,hok⟩:=vX h4
 simp only [↓cw,↓reduceIte,Nat.reduceLT,kk,Bool.true_eq_false,if_false,g89 s (mY h2) h40]
 cases h5:mZ s.ser s.posted
 ·simp only [↓cw,↓reduceIte,Nat.reduceLT,h5,kk,if_true]
 have hbl:=sT s.posted [] (dQ s.posted) (fun p hp=>nX (hok p hp).2) rfl
 simp only [List.length_nil,Nat.zero_add] at hbl
 simp only [↓cw,↓reduceIte,Nat.reduceLT,kk,Bool.true_eq_false,if_false,g90 s.posted (show s.posted.length≤1000 by omega) (fun p hp=>sS (hok p hp).2)]
 by_cases h6:(dQ s.posted).2=0
 ·simp only [↓cw,↓reduceIte,Nat.reduceLT,h6,kk,if_true,g91 (dQ s.posted).1 s.book (show (dQ s.posted).1.length<1000000 by omega),oo]
 ·simp only [↓cw,↓reduceIte,Nat.reduceLT,h6,kk,if_false,oo]
end Go.Proofs.YtoaibmbldmckaaaGreat
end
section
namespace Go.AM
structure Mv (a:Nat) (v:V) (S:St) (v':V) (S':St):Prop where
 next:S.next≤S'.next
 keep:∀ y,y<S.next→y≠a→blkOf v≠some y→S'.heap.get y=S.heap.get y
 fresh:∀ y,blkOf v'=some y→blkOf v=some y∨S.next≤y
theorem Mv.refl (a:Nat) (v:V) (S:St):Mv a v S v S:=⟨Nat.le_refl _,fun _ _ _ _=>rfl,fun _ h=>.inl h⟩
theorem Mv.trans {a:Nat} {u v w:V} {S S' S'':St} (h:Mv a u S v S') (k:Mv a v S' w S''):Mv a u S w S'':=
 ⟨Nat.le_trans h.next k.next,fun y hy ha hu=>by
  rw [k.keep y (Nat.lt_of_lt_of_le hy h.next) ha (fun e=>(h.fresh y e).elim hu fun q=>by omega),h.keep y hy ha hu],fun y hy=>by
  rcases k.fresh y hy with q | q
  ·exact h.fresh y q
  ·exact .inr (Nat.le_trans h.next q)⟩
theorem Mv.put {a:Nat} {v w:V} {S S':St} (h:Mv a v S w S') {k m:Nat} {b:Blk} (hk:k=a∨S.next≤k) (hm:S'.next≤m):Mv a v S w ⟨m,S'.heap.put k b⟩:=
 ⟨Nat.le_trans h.next hm,fun y hy ha hv=>by
  show (S'.heap.put k b).get y=_
  rw [Tr.get_put_neB _ _ _ _ trivial (by
   rcases hk with rfl | q
   ·exact ha
   ·omega)];exact h.keep y hy ha hv,h.fresh⟩
theorem Mv.bump {a:Nat} {v w:V} {S S':St} (h:Mv a v S w S') (c:Nat):Mv a v S w ⟨S'.next+c,S'.heap⟩:=
 ⟨Nat.le_trans h.next (Nat.le_add_right _ _),h.keep,h.fresh⟩
end Go.AM
namespace Go.Proofs.YtoaibmbldmckaaaGreat
open Go.AM Tryz
set_option linter.unusedVariables false
set_option linter.unusedSimpArgs false
set_option maxRecDepth 100000
def State.cells (s:State) (v:V):List V:=[.imm (s.table.map Rate.enc),.imm (s.ser.map Ser.enc),v,.imm (s.book.map Bal.enc),.imm (s.sess.map Sess.enc),.int .i64 s.next]
structure StAt (S:St) (a:Nat) (s:State) (v:V):Prop where
 row:aA S a 0=.ok (6,[s.cells v])
 own:Own E0 S 12 v (s.posted.map Posted.enc)
 wf:WF S
 ne:AM.blkOf v≠some a
theorem StAt.lt {S:St} {a:Nat} {s:State} {v:V} (h:StAt S a s v):a<S.next:=h.wf _ _ (yS h.row)
theorem StAt.put {S:St} {a:Nat} {s:State} {v:V} (h:StAt S a s v) {k m:Nat} {b:Blk} (hk:k≠a) (hv:AM.blkOf v≠some k) (hm:k<m) (hn:S.next≤m):StAt ⟨m,S.heap.put k b⟩ a s v:=
 ⟨aG (n:=S.next) (Ne.symm hk) h.row,h.own.same hn fun y hy=>Tr.get_put_neB _ _ _ _ trivial (fun e=>hv (by rw [←e];exact hy)),hM (n:=S.next) h.wf hm hn,h.ne⟩
theorem StAt.bump {S:St} {a:Nat} {s:State} {v:V} (h:StAt S a s v) (c:Nat):StAt ⟨S.next+c,S.heap⟩ a s v:=⟨h.row,h.own.bump c,h.wf.bump c,h.ne⟩
theorem StAt.set {S:St} {a:Nat} {s s':State} {v:V} (h:StAt S a s v) (hp:s'.posted=s.posted):StAt ⟨S.next,S.heap.put a (.row 0 6 [s'.cells v])⟩ a s' v:=
 ⟨aC _ _ _ _ _ _,by rw [hp];exact h.own.same (Nat.le_refl _) fun y hy=>Tr.get_put_neB _ _ _ _ trivial (fun e=>h.ne (by rw [←e];exact hy)),hM (n:=S.next) h.wf h.lt (Nat.le_refl _),h.ne⟩
theorem StAt.new {S:St} {a:Nat} {s:State} {v:V} (h:StAt S a s v) {k:Nat} (hk:S.next≤k):AM.blkOf v≠some k:=fun e=>by have:=(fG h.own e).2;omega
theorem mF (w:Int) (S:St) (K:KW):C 103 [.int .i64 w] S K=K (.agg [.int .i64 w,.int .i64 0,.int .i64 0]) S:=by
 refine (bKv rfl ?_).eq S K
 delta Tryz.f103;simp only [↓cw,↓reduceIte,Nat.reduceLT,kk,oo]
theorem bJq {S:St} {a:Nat} {s:State} {v:V} (st:StAt S a s v) (name:List UInt8) (p:Posted) (hf:aJr p.total) (hb:s.book.length<900000) {K:KW}
  (H:∀ S' v',StAt S' a (aS s name p).1 v'→Mv a v S v' S'→K (.agg [.int .i64 (aS s name p).2.why,.int .i64 (aS s name p).2.number,.int .i64 (aS s name p).2.gross]) S'):
  C 239 [.ptr a 0 0 0,.str name,.agg [.str p.ref.ser,.int .i64 p.ref.num,.int .i64 p.day.y,.int .i64 p.day.m,.int .i64 p.day.d,.int .i64 p.total.net,.int .i64 p.total.tax,.int .i64 p.total.gross,.imm (p.total.parts.map Part.enc),.str p.of.ser,.int .i64 p.of.num,.bool p.back]] S K:=by
 refine bMv ?_
 have ha:=st.lt
 obtain ⟨S1,hS1⟩:∃ S1:St,S1=⟨S.next+1+1,(S.heap.put S.next (.row 0 12 [p.enc])).put (S.next+1) (.row 0 3 [[.int .i64 0,.int .i64 0,.int .i64 0]])⟩:=⟨_,rfl⟩
 have n1:S1.next=S.next+2:=by rw [hS1]
 have st1:StAt S1 a s v:=by
  rw [hS1]
  exact (st.put (k:=S.next) (m:=S.next+1) (by omega) (st.new (Nat.le_refl _)) (by omega) (by omega)).put (by omega) (st.new (by omega)) (by omega) (Nat.le_succ _)
 have mv1:Mv a v S v S1:=by
  rw [hS1]
  exact ((Mv.refl a v S).put (k:=S.next) (m:=S.next+1) (.inr (Nat.le_refl _)) (by omega)).put (.inr (by omega)) (Nat.le_succ _)
 have r0:aA S1 S.next 0=.ok (12,[p.enc]):=by rw [hS1];exact aG (n:=S.next+1) (by omega) (aC _ _ _ _ _ _)
 have r1:aA S1 (S.next+1) 0=.ok (3,[[.int .i64 0,.int .i64 0,.int .i64 0]]):=by rw [hS1];exact aC _ _ _ _ _ _
 have ra:=st1.row
 simp only [Posted.enc] at r0 hS1
 simp only [State.cells] at ra
 have hlen:lenW v=.ok (.int .i64 (s.posted.length:Int)):=st1.own.sl.lenI
 delta Tryz.f239;simp only [↓cw,↓reduceIte,Nat.reduceLT,kk,←hS1,ra,r0,bOn,hlen,bJc p.total hf]
 simp only [↓cw,↓reduceIte,Nat.reduceLT,mF,kk,r1]
 have hfail:∀ w:Int,aS s name p=(s,why w)→K (.agg [.int .i64 w,.int .i64 0,.int .i64 0]) ⟨S1.next,S1.heap.put (S.next+1) (.row 0 3 [[.int .i64 w,.int .i64 0,.int .i64 0]])⟩:=by
  intro w hw
  have:=H _ v (by rw [hw];exact st1.put (k:=S.next+1) (m:=S1.next) (b:=.row 0 3 [[.int .i64 w,.int .i64 0,.int .i64 0]]) (by omega) (st.new (by omega)) (by omega) (Nat.le_refl _)) (mv1.put (.inr (by omega)) (Nat.le_refl _))
  rw [hw] at this
  exact this
 by_cases c1:(cJ s.ser name).2.2=0
 rotate_left
 ·simp only [↓cw,↓reduceIte,Nat.reduceLT,c1,kk,not_false_eq_true,if_true]
  exact hfail _ (by simp only [aS,c1,not_false_eq_true,if_true,ne_eq])
 by_cases c2:40≤s.posted.length
 ·simp only [↓cw,↓reduceIte,Nat.reduceLT,c1,show (40:Int)≤(s.posted.length:Int) by omega,kk,not_true_eq_false,if_false,if_true]
  exact hfail _ (by simp only [aS,c1,c2,not_true_eq_false,if_false,if_true,ne_eq])
 by_cases c3:(cC p.total).2=0
 rotate_left
 ·simp only [↓cw,↓reduceIte,Nat.reduceLT,c1,c3,show ¬ (40:Int)≤(s.posted.length:Int) by omega,kk,not_true_eq_false,not_false_eq_true,if_false,if_true]
  exact hfail _ (by simp only [aS,c1,c2,c3,not_true_eq_false,not_false_eq_true,if_false,if_true,ne_eq])
 have hel:=(sR p.total).resolve_right (not_not_intro c3)
 have h12:=hf.1
 simp only [↓cw,↓reduceIte,Nat.reduceLT,bDo s.book (cC p.total).1 (show s.book.length+(cC p.total).1.length<1000000 by omega),kk]
 by_cases c4:(bC s.book (cC p.total).1).2=0
 rotate_left
 ·simp only [↓cw,↓reduceIte,Nat.reduceLT,c1,c3,c4,show ¬ (40:Int)≤(s.posted.length:Int) by omega,kk,mF,r1,not_true_eq_false,not_false_eq_true,if_false,if_true]
  exact hfail (bC s.book (cC p.total).1).2 (by simp only [aS,c1,c2,c3,c4,not_true_eq_false,not_false_eq_true,if_false,if_true,ne_eq])
 simp only [↓cw,↓reduceIte,Nat.reduceLT,c1,c3,c4,show ¬ (40:Int)≤(s.posted.length:Int) by omega,kk,not_true_eq_false,if_false,bJ0]
 obtain ⟨q,hq⟩:∃ q:Posted,q={ p with ref:=⟨name,(cJ s.ser name).2.1⟩ }:=⟨_,rfl⟩
 have hiss:aS s name p=({ s with ser:=(cJ s.ser name).1,book:=(bC s.book (cC p.total).1).1,posted:=s.posted++[q] },⟨0,(cJ s.ser name).2.1,p.total.gross⟩):=by
  rw [hq]
  simp only [aS,c1,c2,c3,c4,not_true_eq_false,not_false_eq_true,if_false,if_true,ne_eq]
 have hqe:q.enc=[.str name,.int .i64 (cJ s.ser name).2.1,.int .i64 p.day.y,.int .i64 p.day.m,.int .i64 p.day.d,.int .i64 p.total.net,.int .i64 p.total.tax,.int .i64 p.total.gross,.imm (p.total.parts.map Part.enc),.str p.of.ser,.int .i64 p.of.num,.bool p.back]:=by rw [hq];rfl
 have nY:=st1.put (k:=S.next) (m:=S1.next) (b:=.row 0 12 [q.enc]) (by omega) (st.new (Nat.le_refl _)) (by omega) (Nat.le_refl _)
 have mv2:=mv1.put (k:=S.next) (m:=S1.next) (b:=.row 0 12 [q.enc]) (.inr (Nat.le_refl _)) (Nat.le_refl _)
 obtain ⟨v',S3,q1,w3,n3,own3,bk3,keep3⟩:=aJs (b:=128) nY.own nY.wf (k1:=S1.next+10) (k2:=S1.next+11) (m:=S1.next+21) (fresh nY.wf (by show S1.next≤_;omega)) (fresh nY.wf (by show S1.next≤_;omega)) (by omega) (by omega) (by omega) (by show S1.next≤_;omega) (aHx q) (by simp;omega) (by simp [dR];omega)
 have hbv:∀ y,AM.blkOf v=some y→y<S.next:=fun y hy=>(fG st.own hy).2
 have hn':AM.blkOf v'≠some a:=fun e=>by
  rcases bk3 with h | h
  ·rw [h] at e;have:=Option.some.inj e;omega
  ·rw [h] at e;exact st.ne e
 have mv3:Mv a v S v' S3:=⟨by omega,fun y hy hya hyv=>by rw [keep3 y (by omega) (by omega) hyv];exact mv2.keep y hy hya hyv,fun y hy=>by
  rcases bk3 with h | h
  ·rw [h] at hy;have:=Option.some.inj hy;exact .inr (by omega)
  ·rw [h] at hy;exact .inl hy⟩
 have ra3:aA S3 a 0=.ok (6,[s.cells v]):=aQ nY.row (keep3 a (by omega) (by omega) st.ne)
 have r03:aA S3 S.next 0=.ok (12,[q.enc]):=aQ (aC S1.next S1.heap S.next 0 12 [q.enc]) (keep3 S.next (by omega) (by omega) (st.new (Nat.le_refl _)))
 have r13:aA S3 (S.next+1) 0=.ok (3,[[.int .i64 0,.int .i64 0,.int .i64 0]]):=aQ (aG (n:=S1.next) (m:=S1.next) (b:=.row 0 12 [q.enc]) (by omega) r1) (keep3 (S.next+1) (by omega) (by omega) (st.new (Nat.le_succ _)))
 have hm:s.posted.map Posted.enc++[q.enc]=(s.posted++[q]).map Posted.enc:=by rw [List.map_append];rfl
 rw [hm] at own3
 have o1:=own3.one
 have o2:=own3.cells
 have zz:(S.next=a)=False:=by simp;omega
 have zy:(a=S.next)=False:=by simp;omega
 have zx:(S.next+1=a)=False:=by simp;omega
 have zw:(a=S.next+1)=False:=by simp;omega
 have zv:(S.next+1=S.next)=False:=by simp
 have zu:(S.next=S.next+1)=False:=by simp
 rw [hqe] at q1 r03
 simp only [State.cells] at ra3
 simp only [↓cw,↓reduceIte,Nat.reduceLT,kk,r0,gm,iI,zz,zy,zx,zw,ra]
 dsimp only at q1
 simp only [↓cw,↓reduceIte,Nat.reduceLT,q1,kk,ra3,o1,o2,gm,iI,zz,zy,zx,zw,zv,zu,r03,r13,r1]
 have key:=H ⟨S3.next,(((S3.heap.put a (.row 0 6 [({ s with ser:=(cJ s.ser name).1 }:State).cells v])).put a (.row 0 6 [({ s with ser:=(cJ s.ser name).1,book:=(bC s.book (cC p.total).1).1 }:State).cells v])).put a (.row 0 6 [({ s with ser:=(cJ s.ser name).1,book:=(bC s.book (cC p.total).1).1,posted:=s.posted++[q] }:State).cells v'])).put (S.next+1) (.row 0 3 [[.int .i64 0,.int .i64 (cJ s.ser name).2.1,.int .i64 p.total.gross]])⟩ v' ?_ ?_
 ·rw [hiss] at key
  exact key
 ·rw [hiss]
  have ka:∀ (h:Tr Blk) (b:Blk),∀ y,AM.blkOf v'=some y→(h.put a b).get y=h.get y:=fun h b y hy=>Tr.get_put_neB _ _ _ _ trivial (fun e=>hn' (by rw [←e];exact hy))
  have kn:AM.blkOf v'≠some (S.next+1):=fun e=>by
   rcases bk3 with h | h
   ·rw [h] at e;have:=Option.some.inj e;omega
   ·rw [h] at e;have:=hbv _ e;omega
  have ow:Own E0 ⟨S3.next,((S3.heap.put a (.row 0 6 [({ s with ser:=(cJ s.ser name).1 }:State).cells v])).put a (.row 0 6 [({ s with ser:=(cJ s.ser name).1,book:=(bC s.book (cC p.total).1).1 }:State).cells v])).put a (.row 0 6 [({ s with ser:=(cJ s.ser name).1,book:=(bC s.book (cC p.total).1).1,posted:=s.posted++[q] }:State).cells v'])⟩ 12 v' ((s.posted++[q]).map Posted.enc):=own3.same (Nat.le_refl _) fun y hy=>by
   show ((((S3.heap.put a _).put a _).put a _).get y)=_
   rw [ka _ _ y hy,ka _ _ y hy,ka _ _ y hy]
  have hs:StAt ⟨S3.next,((S3.heap.put a (.row 0 6 [({ s with ser:=(cJ s.ser name).1 }:State).cells v])).put a (.row 0 6 [({ s with ser:=(cJ s.ser name).1,book:=(bC s.book (cC p.total).1).1 }:State).cells v])).put a (.row 0 6 [({ s with ser:=(cJ s.ser name).1,book:=(bC s.book (cC p.total).1).1,posted:=s.posted++[q] }:State).cells v'])⟩ a { s with ser:=(cJ s.ser name).1,book:=(bC s.book (cC p.total).1).1,posted:=s.posted++[q] } v':=
   ⟨aC _ _ _ _ _ _,ow,hM (n:=S3.next) (hM (n:=S3.next) (hM (n:=S3.next) w3 (by omega) (Nat.le_refl _)) (by omega) (Nat.le_refl _)) (by omega) (Nat.le_refl _),hn'⟩
  exact hs.put (k:=S.next+1) (m:=S3.next) (by omega) kn (by omega) (Nat.le_refl _)
 ·exact (((mv3.put (m:=S3.next) (.inl rfl) (Nat.le_refl _)).put (m:=S3.next) (.inl rfl) (Nat.le_refl _)).put (m:=S3.next) (.inl rfl) (Nat.le_refl _)).put (m:=S3.next) (.inr (Nat.le_succ _)) (Nat.le_refl _)
end Go.Proofs.YtoaibmbldmckaaaGreat
end
section
namespace Go.Proofs.YtoaibmbldmckaaaGreat
open Go.AM Tryz
theorem aBp {S:St} {a:Nat} {s:State} {v:V} (st:StAt S a s v) (n m:Nat) (x y:List V):∃ S1:St,S1=⟨S.next+1+1,(S.heap.put S.next (.row 0 n [x])).put (S.next+1) (.row 0 m [y])⟩∧S.next+1+1=S1.next∧(S.heap.put S.next (.row 0 n [x])).put (S.next+1) (.row 0 m [y])=S1.heap∧S1.next=S.next+2∧StAt S1 a s v∧Mv a v S v S1∧aA S1 S.next 0=.ok (n,[x])∧aA S1 (S.next+1) 0=.ok (m,[y]):=by
 have ha:=st.lt
 exact ⟨_,rfl,rfl,rfl,rfl,(st.put (k:=S.next) (m:=S.next+1) (by omega) (st.new (Nat.le_refl _)) (by omega) (by omega)).put (by omega) (st.new (by omega)) (by omega) (Nat.le_succ _),((Mv.refl a v S).put (k:=S.next) (m:=S.next+1) (.inr (Nat.le_refl _)) (by omega)).put (.inr (by omega)) (Nat.le_succ _),
  aG (n:=S.next+1) (by omega) (aC _ _ _ _ _ _),aC _ _ _ _ _ _⟩
theorem bPa {S:St} {a:Nat} {s:State} {v:V} (st:StAt S a s v) (c:Cmd) (hl:c.lines.length<1000000) (hb:s.book.length<900000) {K:KW}
  (H:∀ S' v',StAt S' a (lD s c).1 v'→Mv a v S v' S'→K (.agg [.int .i64 (lD s c).2.why,.int .i64 (lD s c).2.number,.int .i64 (lD s c).2.gross]) S'):
  C 180 [.ptr a 0 0 0,.agg [.int .i64 c.kind,.str c.series,.int .i64 c.limit,.str c.row.cat,.int .i64 c.row.day.y,.int .i64 c.row.day.m,.int .i64 c.row.day.d,.int .i64 c.row.bp,.int .i64 c.day.y,.int .i64 c.day.m,.int .i64 c.day.d,.imm (c.lines.map Line.enc),.str c.of.ser,.int .i64 c.of.num,.int .i64 c.session]] S K:=by
 refine bLy ?_
 have ha:=st.lt
 obtain ⟨S1,hS1,hnx,hhp,n1,st1,mv1,r0,r1⟩:=aBp st 15 3 [.int .i64 c.kind,.str c.series,.int .i64 c.limit,.str c.row.cat,.int .i64 c.row.day.y,.int .i64 c.row.day.m,.int .i64 c.row.day.d,.int .i64 c.row.bp,.int .i64 c.day.y,.int .i64 c.day.m,.int .i64 c.day.d,.imm (c.lines.map Line.enc),.str c.of.ser,.int .i64 c.of.num,.int .i64 c.session] [.int .i64 0,.int .i64 0,.int .i64 0]
 have ra:=st1.row
 simp only [State.cells] at ra
 have e1:(S.next=S1.next+12)=False:=by simp;omega
 have e2:(S.next+1=S1.next+12)=False:=by simp;omega
 delta Tryz.f180;simp only [↓cw,↓reduceIte,Nat.reduceLT,kk,hnx,hhp,gm,ra,r0,bOz s.table c.day c.lines hl,aB3,iI,e1,e2,r1,mF,gm]
 obtain ⟨S2,hS2⟩:∃ S2:St,S2=⟨S1.next+15,(S1.heap.put (S1.next+12) (.row 0 4 [[.int .i64 0,.int .i64 0,.int .i64 0,.nils]])).put (S1.next+12) (.row 0 4 [[.int .i64 (cZ s.table c.day c.lines).1.net,.int .i64 (cZ s.table c.day c.lines).1.tax,.int .i64 (cZ s.table c.day c.lines).1.gross,.imm ((cZ s.table c.day c.lines).1.parts.map Part.enc)]])⟩:=⟨_,rfl⟩
 have nY:StAt S2 a s v:=by
  rw [hS2]
  exact (st1.put (k:=S1.next+12) (m:=S1.next+15) (by omega) (st.new (by omega)) (by omega) (by omega)).put (by omega) (st.new (by omega)) (by omega) (Nat.le_refl _)
 have mv2:Mv a v S v S2:=by
  rw [hS2]
  exact (mv1.put (k:=S1.next+12) (m:=S1.next+15) (.inr (by omega)) (by omega)).put (.inr (by omega)) (Nat.le_refl _)
 have n2:S2.next=S1.next+15:=by rw [hS2]
 have r12:aA S2 (S.next+1) 0=.ok (3,[[.int .i64 0,.int .i64 0,.int .i64 0]]):=by
  rw [hS2];exact aG (n:=S1.next+15) (by omega) (aG (n:=S1.next) (by omega) r1)
 rw [←hS2]
 by_cases h:(cZ s.table c.day c.lines).2=0
 ·have hbm:lD s c=aS s c.series ⟨Ref.zero,c.day,(cZ s.table c.day c.lines).1,Ref.zero,false⟩:=by simp only [lD,h,ne_eq,not_true_eq_false,if_false]
  rw [hbm] at H
  simp only [↓cw,↓reduceIte,Nat.reduceLT,h,kk,not_true_eq_false,if_false]
  refine bJq nY c.series ⟨Ref.zero,c.day,(cZ s.table c.day c.lines).1,Ref.zero,false⟩ (vY h) hb fun S3 v3 st3 mv3=>?_
  have n3:=mv3.next
  have r13:=aQ r12 (mv3.keep (S.next+1) (by omega) (by omega) (st.new (Nat.le_succ _)))
  simp only [↓cw,↓reduceIte,Nat.reduceLT,kk,r13]
  have hv3:AM.blkOf v3≠some (S.next+1):=fun e=>by
   rcases mv3.fresh _ e with q | q
   ·exact st.new (Nat.le_succ _) q
   ·omega
  exact H _ v3 (st3.put (k:=S.next+1) (m:=S3.next) (by omega) hv3 (by omega) (Nat.le_refl _)) ((mv2.trans mv3).put (.inr (Nat.le_succ _)) (Nat.le_refl _))
 ·have hbm:lD s c=(s,why (cZ s.table c.day c.lines).2):=by simp only [lD,h,ne_eq,not_false_eq_true,if_true]
  rw [hbm] at H
  simp only [↓cw,↓reduceIte,Nat.reduceLT,h,kk,not_false_eq_true,if_true]
  have:=H ⟨S2.next,S2.heap.put (S.next+1) (.row 0 3 [[.int .i64 (cZ s.table c.day c.lines).2,.int .i64 0,.int .i64 0]])⟩ v (nY.put (by omega) (st.new (by omega)) (by omega) (Nat.le_refl _)) (mv2.put (.inr (Nat.le_succ _)) (Nat.le_refl _))
  subst hS2
  exact this
theorem bJr {S:St} {a:Nat} {s:State} {v:V} (st:StAt S a s v) (l:List Ser) (w:Int) {K:KW}
  (H:∀ S' v',StAt S' a (gD s (l,w)).1 v'→Mv a v S v' S'→K (.agg [.int .i64 (gD s (l,w)).2.why,.int .i64 (gD s (l,w)).2.number,.int .i64 (gD s (l,w)).2.gross]) S'):C 176 [.ptr a 0 0 1,.imm (l.map Ser.enc),.int .i64 w] S K:=by
 refine bLu ?_
 have ha:=st.lt
 have st1:=st.put (k:=S.next) (m:=S.next+1) (b:=.row 0 3 [[.int .i64 0,.int .i64 0,.int .i64 0]]) (by omega) (st.new (Nat.le_refl _)) (by omega) (by omega)
 have mv1:=(Mv.refl a v S).put (k:=S.next) (m:=S.next+1) (b:=.row 0 3 [[.int .i64 0,.int .i64 0,.int .i64 0]]) (.inr (Nat.le_refl _)) (by omega)
 have ra:=st1.row
 simp only [State.cells] at ra
 have z:(S.next=a)=False:=by simp;omega
 by_cases h:w=0
 ·subst h
  delta Tryz.f176;simp only [↓cw,↓reduceIte,Nat.reduceLT,kk,mF,ra,iI,z,if_true]
  simp only [gD,if_true,why] at H
  exact H _ v ((st1.set (s':={ s with ser:=l }) rfl).put (k:=S.next) (m:=S.next+1) (by omega) (st.new (Nat.le_refl _)) (by omega) (Nat.le_refl _)) ((mv1.put (k:=a) (m:=S.next+1) (.inl rfl) (Nat.le_refl _)).put (.inr (Nat.le_refl _)) (Nat.le_refl _))
 ·delta Tryz.f176;simp only [↓cw,↓reduceIte,Nat.reduceLT,kk,mF,ra,iI,z,h,if_false]
  simp only [gD,h,if_false,why] at H
  exact H _ v (st1.put (k:=S.next) (m:=S.next+1) (by omega) (st.new (Nat.le_refl _)) (by omega) (Nat.le_refl _)) (mv1.put (.inr (Nat.le_refl _)) (Nat.le_refl _))
theorem bPb {S:St} {a:Nat} {s:State} {v:V} (st:StAt S a s v) (l:List Rate) (w:Int) {K:KW}
  (H:∀ S' v',StAt S' a (kS s (l,w)).1 v'→Mv a v S v' S'→K (.agg [.int .i64 (kS s (l,w)).2.why,.int .i64 (kS s (l,w)).2.number,.int .i64 (kS s (l,w)).2.gross]) S'):C 179 [.ptr a 0 0 0,.imm (l.map Rate.enc),.int .i64 w] S K:=by
 refine bLx ?_
 have ha:=st.lt
 have st1:=st.put (k:=S.next) (m:=S.next+1) (b:=.row 0 3 [[.int .i64 0,.int .i64 0,.int .i64 0]]) (by omega) (st.new (Nat.le_refl _)) (by omega) (by omega)
 have mv1:=(Mv.refl a v S).put (k:=S.next) (m:=S.next+1) (b:=.row 0 3 [[.int .i64 0,.int .i64 0,.int .i64 0]]) (.inr (Nat.le_refl _)) (by omega)
 have ra:=st1.row
 simp only [State.cells] at ra
 have z:(S.next=a)=False:=by simp;omega
 by_cases h:w=0
 ·subst h
  delta Tryz.f179;simp only [↓cw,↓reduceIte,Nat.reduceLT,kk,mF,ra,iI,z,if_true]
  simp only [kS,if_true,why] at H
  exact H _ v ((st1.set (s':={ s with table:=l }) rfl).put (k:=S.next) (m:=S.next+1) (by omega) (st.new (Nat.le_refl _)) (by omega) (Nat.le_refl _)) ((mv1.put (k:=a) (m:=S.next+1) (.inl rfl) (Nat.le_refl _)).put (.inr (Nat.le_refl _)) (Nat.le_refl _))
 ·delta Tryz.f179;simp only [↓cw,↓reduceIte,Nat.reduceLT,kk,mF,ra,iI,z,h,if_false]
  simp only [kS,h,if_false,why] at H
  exact H _ v (st1.put (k:=S.next) (m:=S.next+1) (by omega) (st.new (Nat.le_refl _)) (by omega) (Nat.le_refl _)) (mv1.put (.inr (Nat.le_refl _)) (Nat.le_refl _))
theorem bPc {S:St} {a:Nat} {s:State} {v:V} (st:StAt S a s v) (l:List Sess) (w:Int) {K:KW}
  (H:∀ S' v',StAt S' a (iM s (l,w)).1 v'→Mv a v S v' S'→K (.agg [.int .i64 (iM s (l,w)).2.why,.int .i64 (iM s (l,w)).2.number,.int .i64 (iM s (l,w)).2.gross]) S'):C 183 [.ptr a 0 0 4,.imm (l.map Sess.enc),.int .i64 w] S K:=by
 refine bM1 ?_
 have ha:=st.lt
 have st1:=st.put (k:=S.next) (m:=S.next+1) (b:=.row 0 3 [[.int .i64 0,.int .i64 0,.int .i64 0]]) (by omega) (st.new (Nat.le_refl _)) (by omega) (by omega)
 have mv1:=(Mv.refl a v S).put (k:=S.next) (m:=S.next+1) (b:=.row 0 3 [[.int .i64 0,.int .i64 0,.int .i64 0]]) (.inr (Nat.le_refl _)) (by omega)
 have ra:=st1.row
 simp only [State.cells] at ra
 have z:(S.next=a)=False:=by simp;omega
 by_cases h:w=0
 ·subst h
  delta Tryz.f183;simp only [↓cw,↓reduceIte,Nat.reduceLT,kk,mF,ra,iI,z,if_true]
  simp only [iM,if_true,why] at H
  exact H _ v ((st1.set (s':={ s with sess:=l }) rfl).put (k:=S.next) (m:=S.next+1) (by omega) (st.new (Nat.le_refl _)) (by omega) (Nat.le_refl _)) ((mv1.put (k:=a) (m:=S.next+1) (.inl rfl) (Nat.le_refl _)).put (.inr (Nat.le_refl _)) (Nat.le_refl _))
 ·delta Tryz.f183;simp only [↓cw,↓reduceIte,Nat.reduceLT,kk,mF,ra,iI,z,h,if_false]
  simp only [iM,h,if_false,why] at H
  exact H _ v (st1.put (k:=S.next) (m:=S.next+1) (by omega) (st.new (Nat.le_refl _)) (by omega) (Nat.le_refl _)) (mv1.put (.inr (Nat.le_refl _)) (Nat.le_refl _))
theorem bPd {S:St} {a:Nat} {s:State} {v:V} (st:StAt S a s v) (name:List UInt8) (h1:s.ser.length<1000000) (h2:s.book.length<1000000) {K:KW}
  (H:∀ S',StAt S' a s v→Mv a v S v S'→K (.agg [.int .i64 (aEk s name).why,.int .i64 (aEk s name).number,.int .i64 (aEk s name).gross]) S'):C 184 [.ptr a 0 0 0,.str name] S K:=by
 refine bM2 ?_
 have ha:=st.lt
 obtain ⟨f,hf⟩:∃ f,f=(kP s.ser name).1:=⟨_,rfl⟩
 obtain ⟨S1,hS1,hnx,hhp,n1,st1,mv1,r0,r7⟩:=aBp st 3 4 [.int .i64 0,.int .i64 0,.int .i64 0] [.str [],.int .i64 0,.int .i64 0,.bool false]
 have nY:=st1.put (k:=S.next+1) (m:=S1.next) (b:=.row 0 4 [[.str f.name,.int .i64 f.next,.int .i64 f.limit,.bool f.shut]]) (by omega) (st.new (by omega)) (by omega) (Nat.le_refl _)
 have mv2:=mv1.put (k:=S.next+1) (m:=S1.next) (b:=.row 0 4 [[.str f.name,.int .i64 f.next,.int .i64 f.limit,.bool f.shut]]) (.inr (by omega)) (Nat.le_refl _)
 have ra:=st.row
 have ra2:=nY.row
 simp only [State.cells] at ra ra2
 have z0:(a=S.next)=False:=by simp;omega
 have z1:(a=S.next+1)=False:=by simp;omega
 have z2:(S.next=S.next+1)=False:=by simp
 delta Tryz.f184;simp only [↓cw,↓reduceIte,Nat.reduceLT,kk,iI,z0,gm,ra,bOk s.ser name h1,←hf,hnx,hhp,mF,z2,r0,r7]
 cases c:(kP s.ser name).2
 ·simp only [↓cw,↓reduceIte,Nat.reduceLT,c,kk,if_true,mF,iI,z2,gm,r0]
  simp only [aEk,c,if_true] at H
  exact H _ (nY.put (k:=S.next) (m:=S1.next) (by omega) (st.new (by omega)) (by show S.next<S1.next;omega) (Nat.le_refl _)) (mv2.put (.inr (Nat.le_refl _)) (Nat.le_refl _))
 ·simp only [↓cw,↓reduceIte,Nat.reduceLT,c,kk,Bool.true_eq_false,if_false,iI,z0,z1,gm,ra2]
  simp only [aEk,c,Bool.true_eq_false,if_false,←hf] at H
  have z3:(a=S1.next)=False:=by simp;omega
  have nk1:=st.new (k:=S1.next) (by omega)
  obtain ⟨S3,hS3⟩:∃ S3:St,S3=⟨S1.next+1,((S1.heap.put (S.next+1) (.row 0 4 [[.str f.name,.int .i64 f.next,.int .i64 f.limit,.bool f.shut]])).put S1.next (.row 0 3 [[.int .i64 0,.int .i64 0,.int .i64 0]])).put S1.next (.row 0 3 [[.int .i64 0,.int .i64 (wr .i64 (f.next - 1)),.int .i64 0]])⟩:=⟨_,rfl⟩
  have st3:StAt S3 a s v:=by rw [hS3];exact (nY.put (k:=S1.next) (m:=S1.next+1) (by omega) nk1 (by omega) (Nat.le_succ _)).put (by omega) nk1 (by omega) (Nat.le_refl _)
  have mv3:Mv a v S v S3:=by rw [hS3];exact (mv2.put (k:=S1.next) (m:=S1.next+1) (.inr (by omega)) (Nat.le_succ _)).put (.inr (by omega)) (Nat.le_refl _)
  have r03:aA S3 S.next 0=.ok (3,[[.int .i64 0,.int .i64 0,.int .i64 0]]):=by
   rw [hS3];exact aG (n:=S1.next+1) (by omega) (aG (n:=S1.next) (by omega) (aG (n:=S1.next) (by omega) r0))
  have r13:aA S3 S1.next 0=.ok (3,[[.int .i64 0,.int .i64 (wr .i64 (f.next - 1)),.int .i64 0]]):=by rw [hS3];exact aC _ _ _ _ _ _
  have n3:S3.next=S1.next+1:=by rw [hS3]
  rw [←hS3]
  have ra3:=st3.row
  simp only [State.cells] at ra3
  simp only [↓cw,↓reduceIte,Nat.reduceLT,ra3,kk]
  refine aF s.book (step:=qW) (fin:=id) (fun i g vs S'=>vs=[.int .i64 (i:Int)]∧StAt S' a s v∧Mv a v S v S'∧aA S' S.next 0=.ok (3,[[.int .i64 0,.int .i64 0,.int .i64 0]])∧aA S' S1.next 0=.ok (3,[[.int .i64 0,.int .i64 (wr .i64 (f.next - 1)),.int .i64 g]])∧S1.next+1≤S'.next) (fun g=>g=aD qW id s.book 0) ?_ ?_ (s:=0) ⟨rfl,st3,mv3,r03,r13,by omega⟩ rfl
  ·rintro i b g vs S' hi ⟨rfl,st4,mv4,r04,r14,h4⟩ aE Hq
   have hil:=(List.getElem?_eq_some_iff.1 hi).1
   simp only [qW,bCd] at Hq
   have e0:(S1.next=S'.next)=False:=by simp;omega
   have nk2:=st.new (k:=S'.next) (by omega)
   have st5:=(st4.put (k:=S'.next) (m:=S'.next+1) (b:=.row 0 2 [[.str [],.int .i64 0]]) (by omega) nk2 (by omega) (Nat.le_succ _)).put (k:=S'.next) (m:=S'.next+1) (b:=.row 0 2 [[.str b.acc,.int .i64 b.amount]]) (by omega) nk2 (by omega) (Nat.le_refl _)
   have mv5:=(mv4.put (k:=S'.next) (m:=S'.next+1) (b:=.row 0 2 [[.str [],.int .i64 0]]) (.inr (by omega)) (Nat.le_succ _)).put (k:=S'.next) (m:=S'.next+1) (b:=.row 0 2 [[.str b.acc,.int .i64 b.amount]]) (.inr (by omega)) (Nat.le_refl _)
   have r05:∀ m x y,aA ⟨m,(S'.heap.put S'.next x).put S'.next y⟩ S.next 0=.ok (3,[[.int .i64 0,.int .i64 0,.int .i64 0]]):=fun m x y=>aG (n:=S'.next) (by omega) (aG (n:=S'.next) (by omega) r04)
   have r15:∀ m x y,aA ⟨m,(S'.heap.put S'.next x).put S'.next y⟩ S1.next 0=.ok (3,[[.int .i64 0,.int .i64 (wr .i64 (f.next - 1)),.int .i64 g]]):=fun m x y=>aG (n:=S'.next) (by omega) (aG (n:=S'.next) (by omega) r14)
   simp only [↓cw,↓reduceIte,Nat.reduceLT,kk,bL hi,oC hi,Bal.enc,r15,iE (show i<1000000000 by omega)]
   by_cases c:(b.acc == [111,119,101,100])=true
   ·simp only [↓cw,↓reduceIte,Nat.reduceLT,c,kk,if_true] at Hq ⊢
    exact Hq _ _ ⟨rfl,st5.put (k:=S1.next) (m:=S'.next+1) (by omega) nk1 (by omega) (Nat.le_refl _),mv5.put (k:=S1.next) (m:=S'.next+1) (.inr (by omega)) (Nat.le_refl _),aG (n:=S'.next+1) (by omega) (r05 _ _ _),aC _ _ _ _ _ _,by show _≤S'.next+1;omega⟩
   ·simp only [↓cw,↓reduceIte,Nat.reduceLT,c,kk,if_false] at Hq ⊢
    exact Hq _ _ ⟨rfl,st5,mv5,r05 _ _ _,r15 _ _ _,by show _≤S'.next+1;omega⟩
  ·rintro g vs S' ⟨rfl,st4,mv4,r04,r14,h4⟩ aE Hq
   have Hq:g=aD qW id s.book 0:=Hq
   simp only [↓cw,↓reduceIte,Nat.reduceLT,kk,Int.lt_irrefl,if_false,r14,r04]
   rw [←Hq] at H
   exact H _ (st4.put (k:=S.next) (m:=S'.next) (by omega) (st.new (Nat.le_refl _)) (by omega) (Nat.le_refl _)) (mv4.put (.inr (Nat.le_refl _)) (Nat.le_refl _))
end Go.Proofs.YtoaibmbldmckaaaGreat
end
section
namespace Go.AM
theorem Own.fv {S0 S:St} {n:Nat} {v:V} {α:Type} {enc:α→List V} {l:List α} (h:Own S0 S n v (l.map enc)) (hc:∀ x,cloVs (enc x)=true) (bs:List V) (hb:cloVs bs=true):frzVs kO (lY (iZ S 3) S) (v::bs)=.ok (.imm (l.map enc)::bs):=by
 simp only [frzVs,h.out hc,clo_frzs bs hb]
end Go.AM
namespace Go.Proofs.YtoaibmbldmckaaaGreat
open Go.AM Tryz
set_option linter.unusedVariables false
set_option linter.unusedSimpArgs false
set_option maxRecDepth 100000
theorem bPe {S0 S:St} {v:V} {l:List Posted} (h:Own S0 S 12 v (l.map Posted.enc)) (r:Ref) (hb:l.length<1000000) (K:KW):C 168 [v,.agg [.str r.ser,.int .i64 r.num]] S K=K (.int .i64 (aX l r)) S:=
 (f168 l r hb).frz bEj rfl (h.fv (fun _=>rfl) _ rfl) (by simp only [ptrsVs,h.ptrs];rfl) (.inl rfl) K
theorem bPf {S:St} {a:Nat} {s:State} {v:V} (st:StAt S a s v) (c:Cmd) (hp:s.posted.length<900000) (hq:∀ p∈s.posted,aJr p.total) (hb:s.book.length<900000) {K:KW}
  (H:∀ S' v',StAt S' a (eC s c).1 v'→Mv a v S v' S'→K (.agg [.int .i64 (eC s c).2.why,.int .i64 (eC s c).2.number,.int .i64 (eC s c).2.gross]) S'):
  C 181 [.ptr a 0 0 0,.agg [.int .i64 c.kind,.str c.series,.int .i64 c.limit,.str c.row.cat,.int .i64 c.row.day.y,.int .i64 c.row.day.m,.int .i64 c.row.day.d,.int .i64 c.row.bp,.int .i64 c.day.y,.int .i64 c.day.m,.int .i64 c.day.d,.imm (c.lines.map Line.enc),.str c.of.ser,.int .i64 c.of.num,.int .i64 c.session]] S K:=by
 refine bLz ?_
 have ha:=st.lt
 obtain ⟨S1,hS1,hnx,hhp,n1,st1,mv1,r0,r1⟩:=aBp st 15 3 [.int .i64 c.kind,.str c.series,.int .i64 c.limit,.str c.row.cat,.int .i64 c.row.day.y,.int .i64 c.row.day.m,.int .i64 c.row.day.d,.int .i64 c.row.bp,.int .i64 c.day.y,.int .i64 c.day.m,.int .i64 c.day.d,.imm (c.lines.map Line.enc),.str c.of.ser,.int .i64 c.of.num,.int .i64 c.session] [.int .i64 0,.int .i64 0,.int .i64 0]
 have ra:=st1.row
 simp only [State.cells] at ra
 have h168:=bPe (st1.bump 8).own c.of (show s.posted.length<1000000 by omega)
 delta Tryz.f181;simp only [↓cw,↓reduceIte,Nat.reduceLT,kk,hnx,hhp,gm,ra,r0,h168,mF,r1]
 have hfail:∀ (S2:St) (w:Int),StAt S2 a s v→Mv a v S v S2→S1.next≤S2.next→eC s c=(s,why w)→K (.agg [.int .i64 w,.int .i64 0,.int .i64 0]) ⟨S2.next,S2.heap.put (S.next+1) (.row 0 3 [[.int .i64 w,.int .i64 0,.int .i64 0]])⟩:=by
  intro S2 w nY mv2 hn hw
  have:=H _ v (by rw [hw];exact nY.put (k:=S.next+1) (m:=S2.next) (b:=.row 0 3 [[.int .i64 w,.int .i64 0,.int .i64 0]]) (by omega) (st.new (by omega)) (by omega) (Nat.le_refl _)) (mv2.put (.inr (by omega)) (Nat.le_refl _))
  rw [hw] at this
  exact this
 rcases mE s.posted c.of with hk | ⟨k,p,hk,hkp,_⟩
 ·simp only [↓cw,↓reduceIte,Nat.reduceLT,hk,show (-1:Int)<0 by decide,kk,if_true]
  exact hfail ⟨S1.next+8,S1.heap⟩ 11 (st1.bump 8) (mv1.bump 8) (Nat.le_add_right _ _) (by simp only [eC,hk];rfl)
 have hkl:=(List.getElem?_eq_some_iff.1 hkp).1
 have hcm:eC s c=fK s c k p:=by
  have:s.posted.getD k Posted.zero=p:=by rw [List.getD_eq_getElem?_getD,hkp];rfl
  simp only [eC,hk,show ¬ (k:Int)<0 by omega,if_false,Int.toNat_natCast,this]
 have hfp:=hq p (List.mem_of_getElem? hkp)
 have hf12:=hfp.1
 have hkp':(s.posted.map Posted.enc)[k]?=some p.enc:=by rw [List.getElem?_map,hkp];rfl
 obtain ⟨va,ver,hv,_,hvb,hpp,_,_⟩:=(st1.bump 8).own.setK (aD8 (st1.bump 8).wf) nK hkp' .i64
 have hld:=(st1.bump 8).own.ld hv hkp' (some 12) 0
 simp only [↓cw,↓reduceIte,Nat.reduceLT,kk,Posted.enc] at hld
 have nkb:=st.new (k:=S1.next+8) (by omega)
 obtain ⟨S2,hS2⟩:∃ S2:St,S2=⟨S1.next+8+1,(S1.heap.put (S1.next+8) (.row 0 12 [yL])).put (S1.next+8) (.row 0 12 [p.enc])⟩:=⟨_,rfl⟩
 have nY:StAt S2 a s v:=by rw [hS2];exact (st1.put (k:=S1.next+8) (m:=S1.next+8+1) (by omega) nkb (by omega) (by omega)).put (by omega) nkb (by omega) (Nat.le_refl _)
 have mv2:Mv a v S v S2:=by rw [hS2];exact (mv1.put (k:=S1.next+8) (m:=S1.next+8+1) (.inr (by omega)) (by omega)).put (.inr (by omega)) (Nat.le_refl _)
 have n2:S2.next=S1.next+9:=by rw [hS2]
 have r02:aA S2 S.next 0=aA S1 S.next 0:=by rw [hS2,cI _ S1.next _ _ _ _ _ (by omega),cI _ S1.next _ _ _ _ _ (by omega)]
 have r12:aA S2 (S.next+1) 0=aA S1 (S.next+1) 0:=by rw [hS2,cI _ S1.next _ _ _ _ _ (by omega),cI _ S1.next _ _ _ _ _ (by omega)]
 have rp2:aA S2 (S1.next+8) 0=.ok (12,[p.enc]):=by rw [hS2];exact aC _ _ _ _ _ _
 rw [r0] at r02
 rw [r1] at r12
 simp only [yL,Posted.enc] at hS2
 simp only [Posted.enc] at rp2
 simp only [↓cw,↓reduceIte,Nat.reduceLT,hk,show ¬ (k:Int)<0 by omega,kk,if_false,hpp,hld,gm,ra,←hS2,rp2,r02,r12,mF,aJn,aXy,bJj p.total (show p.total.parts.length≤1000 by omega),aB3]
 cases d1:p.back
 rotate_left
 ·simp only [↓cw,↓reduceIte,Nat.reduceLT,d1,kk,if_true]
  exact hfail S2 12 nY mv2 (by omega) (by rw [hcm];simp only [fK,d1,if_true])
 by_cases d2:p.of.ser=[]∧p.of.num=0
 rotate_left
 ·have d2n:¬ p.of=Ref.zero:=by rw [Ref.ext_iff];exact d2
  have d2':(!(p.of.ser == []&&decide (p.of.num=0)))=true:=by
   cases h:(p.of.ser == []&&decide (p.of.num=0)) with
   | false=>rfl
   | true=>exact absurd (by simpa using h) d2
  simp only [↓cw,↓reduceIte,Nat.reduceLT,d1,d2',kk,if_true,Bool.false_eq_true,if_false]
  exact hfail S2 12 nY mv2 (by omega) (by rw [hcm];simp only [fK,d1,Bool.false_eq_true,if_false,d2n])
 have d2z:p.of=Ref.zero:=by rw [Ref.ext_iff];exact d2
 have d2':(p.of.ser == []&&decide (p.of.num=0))=true:=by simpa using d2
 simp only [↓cw,↓reduceIte,Nat.reduceLT,d1,d2',kk,Bool.false_eq_true,if_false]
 cases d3:c.day.right
 ·simp only [↓cw,↓reduceIte,Nat.reduceLT,d3,kk,if_true]
  exact hfail S2 9 nY mv2 (by omega) (by rw [hcm];simp only [fK,d1,d2z,d3,Bool.false_eq_true,if_false,if_true])
 cases d4:c.day.before p.day
 rotate_left
 ·simp only [↓cw,↓reduceIte,Nat.reduceLT,d3,d4,kk,Bool.false_eq_true,if_false,if_true]
  exact hfail S2 9 nY mv2 (by omega) (by rw [hcm];simp only [fK,d1,d2z,d3,d4,Bool.false_eq_true,Bool.true_eq_false,if_false,if_true])
 simp only [↓cw,↓reduceIte,Nat.reduceLT,d3,d4,kk,Bool.false_eq_true,if_false]
 have nk2:=st.new (k:=S2.next) (by omega)
 obtain ⟨S3,hS3⟩:∃ S3:St,S3=⟨S2.next+1,(S2.heap.put S2.next (.row 0 4 [[.int .i64 0,.int .i64 0,.int .i64 0,.nils]])).put S2.next (.row 0 4 [[.int .i64 (aV p.total).1.net,.int .i64 (aV p.total).1.tax,.int .i64 (aV p.total).1.gross,.imm ((aV p.total).1.parts.map Part.enc)]])⟩:=⟨_,rfl⟩
 have st3:StAt S3 a s v:=by rw [hS3];exact (nY.put (k:=S2.next) (m:=S2.next+1) (by omega) nk2 (by omega) (Nat.le_succ _)).put (by omega) nk2 (by omega) (Nat.le_refl _)
 have mv3:Mv a v S v S3:=by rw [hS3];exact (mv2.put (k:=S2.next) (m:=S2.next+1) (.inr (by omega)) (Nat.le_succ _)).put (.inr (by omega)) (Nat.le_refl _)
 have n3:S3.next=S2.next+1:=by rw [hS3]
 have r03:=aG (n:=S2.next+1) (m:=S2.next+1) (a:=S2.next) (b:=.row 0 4 [[.int .i64 (aV p.total).1.net,.int .i64 (aV p.total).1.tax,.int .i64 (aV p.total).1.gross,.imm ((aV p.total).1.parts.map Part.enc)]]) (by omega) (aG (n:=S2.next) (m:=S2.next+1) (a:=S2.next) (b:=.row 0 4 [[.int .i64 0,.int .i64 0,.int .i64 0,.nils]]) (by omega) r02)
 have r13:=aG (n:=S2.next+1) (m:=S2.next+1) (a:=S2.next) (b:=.row 0 4 [[.int .i64 (aV p.total).1.net,.int .i64 (aV p.total).1.tax,.int .i64 (aV p.total).1.gross,.imm ((aV p.total).1.parts.map Part.enc)]]) (by omega) (aG (n:=S2.next) (m:=S2.next+1) (a:=S2.next) (b:=.row 0 4 [[.int .i64 0,.int .i64 0,.int .i64 0,.nils]]) (by omega) r12)
 have rb3:aA S3 S2.next 0=.ok (4,[[.int .i64 (aV p.total).1.net,.int .i64 (aV p.total).1.tax,.int .i64 (aV p.total).1.gross,.imm ((aV p.total).1.parts.map Part.enc)]]):=by rw [hS3];exact aC _ _ _ _ _ _
 simp only [←hS3] at r03 r13 ⊢
 by_cases d5:(aV p.total).2=0
 rotate_left
 ·simp only [↓cw,↓reduceIte,Nat.reduceLT,d5,kk,r13,not_false_eq_true,if_true]
  have:=hfail S3 (aV p.total).2 st3 mv3 (by omega) (by rw [hcm];simp only [fK,d1,d2z,d3,d4,d5,Bool.false_eq_true,Bool.true_eq_false,if_false,if_true,ne_eq,not_false_eq_true])
  subst hS3
  exact this
 simp only [↓cw,↓reduceIte,Nat.reduceLT,d5,kk,r03,rb3,not_true_eq_false,if_false]
 obtain ⟨q,hqq⟩:∃ q:Posted,q=⟨Ref.zero,c.day,(aV p.total).1,c.of,false⟩:=⟨_,rfl⟩
 have hcq:eC s c=if (aS s c.series q).2.why=0 then ({ (aS s c.series q).1 with posted:=eB (aS s c.series q).1.posted k },(aS s c.series q).2) else aS s c.series q:=by
  rw [hcm];simp only [fK,d1,d2z,d3,d4,d5,←hqq,Bool.false_eq_true,Bool.true_eq_false,if_false,if_true,ne_eq,not_true_eq_false]
 have hfq:aJr q.total:=by rw [hqq];exact aQm hfp d5
 rw [hcq] at H
 have h239:=@bJq S3 a s v st3 c.series q hfq hb
 obtain ⟨s',hs'⟩:∃ s',s'=(aS s c.series q).1:=⟨_,rfl⟩
 obtain ⟨r,hr⟩:∃ r,r=(aS s c.series q).2:=⟨_,rfl⟩
 obtain ⟨lx,hlx⟩:=aHv s c.series q
 have hiq:aS s c.series q=(s',r):=by rw [hs',hr]
 simp only [hiq] at H h239 hlx
 rw [hqq] at h239
 refine h239 fun S4 v4 st4 mv4=>?_
 have n4:=mv4.next
 have hv4:∀ y,y<S3.next→AM.blkOf v≠some y→AM.blkOf v4≠some y:=fun y h1 h2 e=>by
  rcases mv4.fresh y e with h | h
  ·exact h2 h
  ·omega
 have hv4S:AM.blkOf v4≠some S4.next:=fun e=>by have:=(fG st4.own e).2;omega
 have ha4:=st4.lt
 obtain ⟨S5,hS5⟩:∃ S5:St,S5=⟨S4.next+1,(S4.heap.put S4.next (.row 0 3 [[.int .i64 0,.int .i64 0,.int .i64 0]])).put S4.next (.row 0 3 [[.int .i64 r.why,.int .i64 r.number,.int .i64 r.gross]])⟩:=⟨_,rfl⟩
 have n5:S5.next=S4.next+1:=by rw [hS5]
 have st5:StAt S5 a s' v4:=by rw [hS5];exact (st4.put (k:=S4.next) (m:=S4.next+1) (by omega) hv4S (by omega) (Nat.le_succ _)).put (by omega) hv4S (by omega) (Nat.le_refl _)
 have mv5:Mv a v S v4 S5:=by rw [hS5];exact ((mv3.trans mv4).put (k:=S4.next) (m:=S4.next+1) (.inr (by omega)) (Nat.le_succ _)).put (.inr (by omega)) (Nat.le_refl _)
 have r14:=aQ r13 (mv4.keep (S.next+1) (by omega) (by omega) (st.new (Nat.le_succ _)))
 have r15:aA S5 (S.next+1) 0=.ok (3,[[.int .i64 0,.int .i64 0,.int .i64 0]]):=by rw [hS5];exact aG (n:=S4.next+1) (by omega) (aG (n:=S4.next) (by omega) r14)
 have rr5:aA S5 S4.next 0=.ok (3,[[.int .i64 r.why,.int .i64 r.number,.int .i64 r.gross]]):=by rw [hS5];exact aC _ _ _ _ _ _
 have hv41:=hv4 (S.next+1) (by omega) (st.new (Nat.le_succ _))
 have ra5:=st5.row
 simp only [State.cells] at ra5
 simp only [↓cw,↓reduceIte,Nat.reduceLT,kk,←hS5,rr5,ra5]
 by_cases d6:r.why=0
 ·simp only [d6,if_true] at H
  have hk4:s'.posted[k]?=some p:=by rw [hlx,List.getElem?_append_left hkl];exact hkp
  have hk5:(s'.posted.map Posted.enc)[k]?=some p.enc:=by rw [List.getElem?_map,hk4];rfl
  obtain ⟨vb,ver5,hv5,_,hvb5,e5,_,set5⟩:=st5.own.setK (aD8 st5.wf) nK hk5 .i64
  obtain ⟨S6,q6,x6,n6,own6,keep6,w6⟩:=set5 11 1 (.bool true) rfl rfl (by decide)
  have hblk:AM.blkOf v4=some vb:=by rw [hv5];rfl
  have hes:(s'.posted.map Posted.enc).set k (splice p.enc 11 [.bool true])=(eB s'.posted k).map Posted.enc:=by
   simp only [eB,hk4,List.map_set];rfl
  simp only [V.cells] at own6
  rw [hes] at own6
  have st6:StAt S6 a { s' with posted:=eB s'.posted k } v4:=⟨aQ st5.row (keep6 a (fun e=>st5.ne (by rw [hblk,e]))),own6,w6 st5.wf,st5.ne⟩
  have mv6:Mv a v S v4 S6:=⟨by have:=mv5.next;omega,fun y h1 h2 h3=>by
   rw [keep6 y (fun e=>by
    have:=mv5.fresh y (by rw [hblk,e])
    rcases this with h | h
    ·exact h3 h
    ·omega)]
   exact mv5.keep y h1 h2 h3,mv5.fresh⟩
  have rr6:=aQ rr5 (keep6 S4.next (fun e=>hv4S (by rw [hblk,e])))
  have r16:=aQ r15 (keep6 (S.next+1) (fun e=>hv41 (by rw [hblk,e])))
  simp only [↓cw,↓reduceIte,Nat.reduceLT,d6,kk,if_true,e5,q6,rr6,r16]
  have:=H _ v4 (st6.put (k:=S.next+1) (m:=S6.next) (b:=.row 0 3 [[.int .i64 r.why,.int .i64 r.number,.int .i64 r.gross]]) (by omega) hv41 (by omega) (Nat.le_refl _)) (mv6.put (.inr (Nat.le_succ _)) (Nat.le_refl _))
  simp only [d6] at this
  exact this
 ·simp only [d6,if_false] at H
  simp only [↓cw,↓reduceIte,Nat.reduceLT,d6,kk,if_false,r15]
  exact H _ v4 (st5.put (k:=S.next+1) (m:=S5.next) (by omega) hv41 (by omega) (Nat.le_refl _)) (mv5.put (.inr (Nat.le_succ _)) (Nat.le_refl _))
end Go.Proofs.YtoaibmbldmckaaaGreat
end
section
namespace Go.Proofs.YtoaibmbldmckaaaGreat
open Go.AM Tryz
theorem bPg {S:St} {a:Nat} {s:State} {v:V} (st:StAt S a s v) (c:Cmd) (hl:c.lines.length<1000000) (hs:s.ser.length<1000000) (hp:s.posted.length<900000) (hq:∀ p∈s.posted,aJr p.total) (hb:s.book.length<900000) {K:KW}
  (H:∀ S' v',StAt S' a (rX s c).1 v'→Mv a v S v' S'→K (.agg [.int .i64 (rX s c).2.why,.int .i64 (rX s c).2.number,.int .i64 (rX s c).2.gross]) S'):
  C 106 [.ptr a 0 0 0,.agg [.int .i64 c.kind,.str c.series,.int .i64 c.limit,.str c.row.cat,.int .i64 c.row.day.y,.int .i64 c.row.day.m,.int .i64 c.row.day.d,.int .i64 c.row.bp,.int .i64 c.day.y,.int .i64 c.day.m,.int .i64 c.day.d,.imm (c.lines.map Line.enc),.str c.of.ser,.int .i64 c.of.num,.int .i64 c.session]] S K:=by
 refine bKy ?_
 have ha:=st.lt
 obtain ⟨S1,hS1,hnx,hhp,n1,st1,mv1,r0,r1⟩:=aBp st 15 3 [.int .i64 c.kind,.str c.series,.int .i64 c.limit,.str c.row.cat,.int .i64 c.row.day.y,.int .i64 c.row.day.m,.int .i64 c.row.day.d,.int .i64 c.row.bp,.int .i64 c.day.y,.int .i64 c.day.m,.int .i64 c.day.d,.imm (c.lines.map Line.enc),.str c.of.ser,.int .i64 c.of.num,.int .i64 c.session] [.int .i64 0,.int .i64 0,.int .i64 0]
 have ra:=st1.row
 simp only [State.cells] at ra
 have hend:∀ (S2:St) (v2:V) (r:State×Rep),rX s c=r→StAt S2 a r.1 v2→Mv a v S1 v2 S2→K (.agg [.int .i64 r.2.why,.int .i64 r.2.number,.int .i64 r.2.gross]) ⟨S2.next,S2.heap.put (S.next+1) (.row 0 3 [[.int .i64 r.2.why,.int .i64 r.2.number,.int .i64 r.2.gross]])⟩:=by
  rintro S2 v2 r rfl nY mv2
  have n2:=mv2.next
  have hv2:AM.blkOf v2≠some (S.next+1):=fun e=>by
   rcases mv2.fresh _ e with h | h
   ·exact st.new (Nat.le_succ _) h
   ·omega
  exact H _ v2 (nY.put (k:=S.next+1) (m:=S2.next) (by omega) hv2 (by omega) (Nat.le_refl _)) ((mv1.trans mv2).put (.inr (Nat.le_succ _)) (Nat.le_refl _))
 have hr1:∀ (S2:St) (v2:V),Mv a v S1 v2 S2→aA S2 (S.next+1) 0=.ok (3,[[.int .i64 0,.int .i64 0,.int .i64 0]]):=fun S2 v2 mv2=>aQ r1 (mv2.keep (S.next+1) (by omega) (by omega) (st.new (Nat.le_succ _)))
 delta Tryz.f106;simp only [↓cw,↓reduceIte,Nat.reduceLT,kk,hnx,hhp,←hS1,gm,ra,r0]
 by_cases k1:c.kind=1
 ·simp only [↓cw,↓reduceIte,Nat.reduceLT,k1,kk,if_true,bOl]
  refine bJr (st1.bump 14) _ _ fun S2 v2 nY mv2=>?_
  have mv2':=((Mv.refl a v S1).bump 14).trans mv2
  simp only [↓cw,↓reduceIte,Nat.reduceLT,kk,hr1 _ _ mv2']
  exact hend S2 v2 _ (by simp only [rX,k1,if_true]) nY mv2'
 by_cases k2:c.kind=2
 ·simp only [↓cw,↓reduceIte,Nat.reduceLT,k1,k2,kk,show ¬ (2:Int)=1 by decide,if_true,if_false,bOm]
  refine bJr (st1.bump 12) _ _ fun S2 v2 nY mv2=>?_
  have mv2':=((Mv.refl a v S1).bump 12).trans mv2
  simp only [↓cw,↓reduceIte,Nat.reduceLT,kk,hr1 _ _ mv2']
  exact hend S2 v2 _ (by simp only [rX,k2,show ¬ (2:Int)=1 by decide,if_true,if_false]) nY mv2'
 by_cases k3:c.kind=3
 ·simp only [↓cw,↓reduceIte,Nat.reduceLT,k1,k2,k3,kk,show ¬ (3:Int)=1 by decide,show ¬ (3:Int)=2 by decide,if_true,if_false,bOq]
  refine bPb (st1.bump 12) _ _ fun S2 v2 nY mv2=>?_
  have mv2':=((Mv.refl a v S1).bump 12).trans mv2
  simp only [↓cw,↓reduceIte,Nat.reduceLT,kk,hr1 _ _ mv2']
  exact hend S2 v2 _ (by simp only [rX,k3,show ¬ (3:Int)=1 by decide,show ¬ (3:Int)=2 by decide,if_true,if_false]) nY mv2'
 by_cases k4:c.kind=4
 ·simp only [↓cw,↓reduceIte,Nat.reduceLT,k1,k2,k3,kk,if_true,if_false,show (c.kind=4)=True by simp [k4]]
  refine bPa st1 c hl hb fun S2 v2 nY mv2=>?_
  simp only [↓cw,↓reduceIte,Nat.reduceLT,kk,hr1 _ _ mv2]
  exact hend S2 v2 _ (by simp only [rX,k1,k2,k3,show (c.kind=4)=True by simp [k4],if_true,if_false]) nY mv2
 by_cases k5:c.kind=5
 ·simp only [↓cw,↓reduceIte,Nat.reduceLT,k1,k2,k3,k4,kk,if_true,if_false,show (c.kind=5)=True by simp [k5]]
  refine bPf st1 c hp hq hb fun S2 v2 nY mv2=>?_
  simp only [↓cw,↓reduceIte,Nat.reduceLT,kk,hr1 _ _ mv2]
  exact hend S2 v2 _ (by simp only [rX,k1,k2,k3,k4,show (c.kind=5)=True by simp [k5],if_true,if_false]) nY mv2
 by_cases k7:c.kind=7
 ·simp only [↓cw,↓reduceIte,Nat.reduceLT,k1,k2,k3,k4,k5,kk,if_true,if_false,show (c.kind=7)=True by simp [k7],bOg]
  refine bPc (st1.bump 12) _ _ fun S2 v2 nY mv2=>?_
  have mv2':=((Mv.refl a v S1).bump 12).trans mv2
  simp only [↓cw,↓reduceIte,Nat.reduceLT,kk,hr1 _ _ mv2']
  exact hend S2 v2 _ (by simp only [rX,k1,k2,k3,k4,k5,show (c.kind=7)=True by simp [k7],if_true,if_false]) nY mv2'
 ·simp only [↓cw,↓reduceIte,Nat.reduceLT,k1,k2,k3,k4,k5,k7,kk,if_false]
  refine bPd st1 c.series hs (by omega) fun S2 nY mv2=>?_
  simp only [↓cw,↓reduceIte,Nat.reduceLT,kk,hr1 _ _ mv2]
  exact hend S2 v (s,aEk s c.series) (by simp only [rX,k1,k2,k3,k4,k5,k7,if_false]) nY mv2
end Go.Proofs.YtoaibmbldmckaaaGreat
end
section
namespace Go.AM
theorem Own.frzN {S0 S:St} {n:Nat} {v:V} {es:List (List V)} (h:Own S0 S n v es) (hc:es.all cloVs=true) (k:Nat):cM kO (lY (iZ S (k+1)) S) v=.ok (.imm es):=by
 rcases h.is with ⟨rfl,rfl⟩ | ⟨a,ver,tl,rfl,_,_,q⟩
 ·rfl
 ·have he:aO S (.sl a ver n 0 es.length)=.ok es:=h.sl.elems
  simp only [cM,lY,he,(mV (S:=S) (n:=k) hc).1]
theorem Own.blks {S0 S:St} {n:Nat} {v:V} {es:List (List V)} (h:Own S0 S n v es) (hc:es.all cloVs=true) (k:Nat) {y:Nat} (hy:y∈fT (jV (gO S (k+1)) S) v):blkOf v=some y:=by
 rcases h.is with ⟨rfl,rfl⟩ | ⟨a,ver,tl,rfl,_,_,q⟩
 ·cases hy
 ·have he:aO S (.sl a ver n 0 es.length)=.ok es:=h.sl.elems
  simp only [fT,jV,he,(mV (S:=S) (n:=k) hc).2,List.mem_singleton] at hy
  rw [hy];rfl
theorem aOq {α β:Type} {φ:α→R β}:∀ {l:List α} {out:List β},l.length=out.length→(∀ (j:Nat) (x:α),l[j]?=some x→∃ y,out[j]?=some y∧φ x=.ok y)→lX φ l=.ok out
 | [],[],_,_=>rfl
 | [],_::_,h,_=>by simp at h
 | _::_,[],h,_=>by simp at h
 | x::l,y::out,h,hx=>by
  obtain ⟨y',h1,h2⟩:=hx 0 x rfl
  cases h1
  simp only [lX,h2,aOq (l:=l) (out:=out) (by simpa using h) fun j z hz=>hx (j+1) z hz]
theorem aJu {φ:List V→List Nat} {a:Nat}:∀ {l:List (List V)},a∈lZ φ l→∃ x∈l,a∈φ x
 | [],h=>by cases h
 | x::l,h=>by
  rcases List.mem_append.1 h with h | h
  ·exact ⟨x,List.mem_cons_self ..,h⟩
  ·obtain ⟨z,h1,h2⟩:=aJu h
   exact ⟨z,List.mem_cons_of_mem _ h1,h2⟩
theorem aY5 {l:List Nat} {a:Nat} (h:a ∉ l):(l.any fun b=>gQ b [a])=false:=by
 rw [List.any_eq_false]
 intro b hb e
 simp only [gQ,Bool.or_false] at e
 exact h (by rw [←Nat.eq_of_beq_eq_true e];exact hb)
theorem bDq {α:Type} {enc:α→List V} {n b:Nat} (hl:∀ x,(enc x).length=n∧aH (enc x)=true) (l:List α) {S:St} (w:WF S) {k m:Nat} (hk:k<m) (hm:S.next≤m) (h1:l.length*b≤35184372088832) (h2:l.length<dR):
  ∃ v S',eE n b .nils (.imm (l.map enc)) (some k) ⟨m,S.heap⟩=.ok (v,S')∧WF S'∧S'.next=m∧Own E0 S' n v (l.map enc)∧(∀ y,blkOf v=some y→y=k)∧∀ y,y≠k→S'.heap.get y=S.heap.get y:=by
 have hc:∀ cs,cs∈l.map enc→cs.length=n∧aH cs=true:=fun cs hc=>by obtain ⟨x,_,rfl⟩:=List.mem_map.1 hc;exact hl x
 obtain ⟨a1,a2⟩:=cY hc
 have w1:WF ⟨m,S.heap⟩:=fun a b h=>by have:=w a b h;show a<m;omega
 cases l with
 | nil=>exact ⟨.nils,⟨m,S.heap⟩,rfl,w1,rfl,Own.nil _ _ _,fun y h=>(by cases h),fun _ _=>rfl⟩
 | cons x l=>
  refine ⟨.sl k 0 n 0 (l.length+1),⟨m,S.heap.put k (.row 0 n ((x::l).map enc))⟩,?_,hM w1 hk (Nat.le_refl _),rfl,⟨.inr ⟨k,0,[],by simp,Nat.zero_le _,hk,?_⟩,hc⟩,fun y h=>(by cases h;rfl),fun y hy=>Tr.get_put_neB _ _ _ _ trivial hy⟩
  ·simp only [eE,aO]
   rw [if_pos ⟨a1,a2⟩]
   simp only [List.map_cons,List.length_cons,List.length_map,tP] at h1 h2 ⊢
   rw [if_pos ⟨h1,h2⟩]
  ·rw [List.append_nil];exact Tr.get_put_sameB _ _ _ trivial
theorem aY6 {S2 S:St} {v1 v2 v3 v4:V} {l1 l2 l3 l4 es es':List (List V)} {k:IntKind} {x:Int} {a n m:Nat} (h1:cM kO (lY (iZ S2 3) S2) v1=.ok (.imm l1)) (h2:cM kO (lY (iZ S2 3) S2) v2=.ok (.imm l2)) (h3:cM kO (lY (iZ S2 3) S2) v3=.ok (.imm l3)) (h4:cM kO (lY (iZ S2 3) S2) v4=.ok (.imm l4))
  (hg:S2.heap.get a=some (.row 0 n es)) (hm:lX (iZ S2 3) es=.ok es') (b1:a ∉ fT (jV (gO S2 3) S2) v1) (b2:a ∉ fT (jV (gO S2 3) S2) v2) (b3:a ∉ fT (jV (gO S2 3) S2) v3) (b4:a ∉ fT (jV (gO S2 3) S2) v4) (b5:a ∉ lZ (gO S2 3) es):
  sN [2] (.agg [v1,v2,.sl a 0 n 0 m,v3,v4,.int k x]) S2 S=.ok (.agg [.imm l1,.imm l2,.sl S.next 0 n 0 m,.imm l3,.imm l4,.int k x],⟨S.next+1,S.heap.put S.next (.row 0 n es')⟩):=by
 have hb:a ∉ fT (jV (gO S2 3) S2) v1++(fT (jV (gO S2 3) S2) v2++([]++(fT (jV (gO S2 3) S2) v3++(fT (jV (gO S2 3) S2) v4++([]++[])))))++(lZ (gO S2 3) es++[]):=by
  simp only [List.mem_append,List.append_nil,List.nil_append]
  rintro ((h | h | h | h) | h)
  ·exact b1 h
  ·exact b2 h
  ·exact b3 h
  ·exact b4 h
  ·exact b5 h
 have hi:aAy S2 [2] 0 S.next [v1,v2,.sl a 0 n 0 m,v3,v4,.int k x]=.ok ([.imm l1,.imm l2,.sl S.next 0 n 0 m,.imm l3,.imm l4,.int k x],[a]):=by
  simp only [aAy,gQ,show Nat.beq 0 2=false from rfl,show Nat.beq (0+1) 2=false from rfl,show Nat.beq (0+1+1) 2=true from rfl,show Nat.beq (0+1+1+1) 2=false from rfl,show Nat.beq (0+1+1+1+1) 2=false from rfl,show Nat.beq (0+1+1+1+1+1) 2=false from rfl,Bool.or_false,cond_false,cond_true,h1,h2,h3,h4,cM]
 have hr:jA S2 [a]=.ok [(0,n,es')]:=by simp only [jA,hg,hm]
 have hB:vE S2 [2] 0 [v1,v2,.sl a 0 n 0 m,v3,v4,.int k x]=fT (jV (gO S2 3) S2) v1++(fT (jV (gO S2 3) S2) v2++([]++(fT (jV (gO S2 3) S2) v3++(fT (jV (gO S2 3) S2) v4++([]++[]))))):=rfl
 have hR:dH S2 [a]=lZ (gO S2 3) es++[]:=by simp only [dH,hg]
 simp only [sN,V.cells,hi,hr,pW,hB,hR,aY5 hb]
 rfl
theorem aV5 {S2 S:St} {v1 v2 v3 v4:V} {l1 l2 l3 l4:List (List V)} {k:IntKind} {x:Int} (h1:cM kO (lY (iZ S2 3) S2) v1=.ok (.imm l1)) (h2:cM kO (lY (iZ S2 3) S2) v2=.ok (.imm l2)) (h3:cM kO (lY (iZ S2 3) S2) v3=.ok (.imm l3)) (h4:cM kO (lY (iZ S2 3) S2) v4=.ok (.imm l4)):
  sN [2] (.agg [v1,v2,.nils,v3,v4,.int k x]) S2 S=.ok (.agg [.imm l1,.imm l2,.nils,.imm l3,.imm l4,.int k x],⟨S.next+0,S.heap⟩):=by
 have hi:aAy S2 [2] 0 S.next [v1,v2,.nils,v3,v4,.int k x]=.ok ([.imm l1,.imm l2,.nils,.imm l3,.imm l4,.int k x],[]):=by
  simp only [aAy,gQ,show Nat.beq 0 2=false from rfl,show Nat.beq (0+1) 2=false from rfl,show Nat.beq (0+1+1) 2=true from rfl,show Nat.beq (0+1+1+1) 2=false from rfl,show Nat.beq (0+1+1+1+1) 2=false from rfl,show Nat.beq (0+1+1+1+1+1) 2=false from rfl,Bool.or_false,cond_false,cond_true,h1,h2,h3,h4,cM]
 have hn:∀ l:List Nat,(l.any fun b=>gQ b [])=false:=fun l=>by rw [List.any_eq_false];intro b _ e;cases e
 simp only [sN,V.cells,hi,jA,pW,hn]
 rfl
structure Cp (S:St) (cells z:List V):Prop where
 wf:WF S
 two:2≤S.next
 r0:aA S 0 0=.ok (6,[cells])
 r1:aA S 1 0=.ok (6,[z])
theorem Cp.put {S:St} {cells z:List V} (c:Cp S cells z) (cells':List V):Cp ⟨S.next,S.heap.put 0 (.row 0 6 [cells'])⟩ cells' z:=
 ⟨hM (n:=S.next) c.wf (by have:=c.two;omega) (Nat.le_refl _),c.two,aC _ _ _ _ _ _,aG (n:=S.next) (by decide) c.r1⟩
theorem Cp.copy {α:Type} {enc:α→List V} {n b:Nat} (hl:∀ x,(enc x).length=n∧aH (enc x)=true) (l:List α) {S:St} {cells z:List V} (c:Cp S cells z) (h1:l.length*b≤35184372088832) (h2:l.length<dR):
  ∃ v S',eE n b .nils (.imm (l.map enc)) none S=.ok (v,S')∧Cp S' cells z∧Own E0 S' n v (l.map enc)∧(∀ y,blkOf v=some y→S.next≤y∧y<S'.next)∧Ext S S':=by
 obtain ⟨v,S',q1,x,own⟩:=aOm (b:=b) hl l c.wf h1 h2
 exact ⟨v,S',q1,⟨x.wf c.wf,Nat.le_trans c.two x.next,x.row c.r0,x.row c.r1⟩,own.weaken (Nat.zero_le _),fun y hy=>fG own hy,x⟩
theorem Own.on {S S':St} {n:Nat} {v:V} {es:List (List V)} (o:Own E0 S n v es) (hb:∀ y,blkOf v=some y→2≤y) (x:Ext S S') (b:Blk):Own E0 ⟨S'.next,S'.heap.put 0 b⟩ n v es:=
 (o.ext x).same (Nat.le_refl _) fun a ha=>Tr.get_put_neB _ _ _ _ trivial (by have:=hb a ha;omega)
theorem Own.on0 {S:St} {n:Nat} {v:V} {es:List (List V)} (o:Own E0 S n v es) (hb:∀ y,blkOf v=some y→2≤y) (b:Blk):Own E0 ⟨S.next,S.heap.put 0 b⟩ n v es:=o.on hb (Ext.refl S) b
end Go.AM
namespace Go.Proofs.YtoaibmbldmckaaaGreat
open Go.AM Tryz
set_option linter.unusedVariables false
set_option linter.unusedSimpArgs false
set_option maxRecDepth 100000
end Go.Proofs.YtoaibmbldmckaaaGreat
end
section
namespace Go.Proofs.YtoaibmbldmckaaaGreat
open Go.AM Tryz
def zst:List V:=[.nils,.nils,.nils,.nils,.nils,.int .i64 0]
theorem bJs {S:St} (w:WF S) (s:State) (b:Bnd s) {K:KW} (k:∀ v S',Ext S S'→Own S S' 12 v (s.posted.map Posted.enc)→K (.agg [.imm (s.table.map Rate.enc),.imm (s.ser.map Ser.enc),v,.imm (s.book.map Bal.enc),.imm (s.sess.map Sess.enc),.int .i64 s.next]) S'):
  C 102 [.agg [.imm (s.table.map Rate.enc),.imm (s.ser.map Ser.enc),.imm (s.posted.map Posted.enc),.imm (s.book.map Bal.enc),.imm (s.sess.map Sess.enc),.int .i64 s.next]] S K:=by
 have hbt:=b.bt
 have hbs:=b.bs
 have hbp:=b.bp
 have hbb:=b.bb
 have hbe:=b.be
 refine bKu rfl ?_
 obtain ⟨A0,hA0⟩:∃ A0:St,A0=⟨1+1,(Tr.nil.put 0 (.row 0 6 [s.enc])).put 1 (.row 0 6 [zst])⟩:=⟨_,rfl⟩
 have c0:Cp A0 s.enc zst:=by rw [hA0];exact ⟨hM (n:=1) (hM nK (by decide) (by decide)) (by decide) (by decide),Nat.le_refl _,rfl,rfl⟩
 obtain ⟨v1,A1,q1,c1,o1,b1,x1⟩:=c0.copy (b:=48) bCg s.table (by omega) (by unfold dR;omega)
 have d1:=c1.put [v1,.imm (s.ser.map Ser.enc),.imm (s.posted.map Posted.enc),.imm (s.book.map Bal.enc),.imm (s.sess.map Sess.enc),.int .i64 s.next]
 obtain ⟨v2,A2,q2,c2,o2,b2,x2⟩:=d1.copy (b:=40) aV0 s.ser (by omega) (by unfold dR;omega)
 have d2:=c2.put [v1,v2,.imm (s.posted.map Posted.enc),.imm (s.book.map Bal.enc),.imm (s.sess.map Sess.enc),.int .i64 s.next]
 obtain ⟨v3,A3,q3,c3,o3,b3,x3⟩:=d2.copy (b:=24) aEm s.book (by omega) (by unfold dR;omega)
 have d3:=c3.put [v1,v2,.imm (s.posted.map Posted.enc),v3,.imm (s.sess.map Sess.enc),.int .i64 s.next]
 obtain ⟨v4,A4,q4,c4,o4,b4,x4⟩:=d3.copy (b:=40) aJp s.sess (by omega) (by unfold dR;omega)
 have d4:=c4.put [v1,v2,.imm (s.posted.map Posted.enc),v3,v4,.int .i64 s.next]
 have t0:=c0.two
 have t1:=c1.two
 have t2:=c2.two
 have t3:=c3.two
 have t4:=c4.two
 have m1:=x1.next
 have m2:A1.next≤A2.next:=x2.next
 have m3:A2.next≤A3.next:=x3.next
 have m4:A3.next≤A4.next:=x4.next
 have b2:∀ y,AM.blkOf v2=some y→A1.next≤y∧y<A2.next:=b2
 have b3:∀ y,AM.blkOf v3=some y→A2.next≤y∧y<A3.next:=b3
 have b4:∀ y,AM.blkOf v4=some y→A3.next≤y∧y<A4.next:=b4
 have g1:∀ y,AM.blkOf v1=some y→2≤y:=fun y hy=>by have:=b1 y hy;omega
 have g2:∀ y,AM.blkOf v2=some y→2≤y:=fun y hy=>by have:=b2 y hy;omega
 have g3:∀ y,AM.blkOf v3=some y→2≤y:=fun y hy=>by have:=b3 y hy;omega
 have g4:∀ y,AM.blkOf v4=some y→2≤y:=fun y hy=>by have:=b4 y hy;omega
 have p1:=((((o1.on0 g1 _).on g1 x2 _).on g1 x3 _).on g1 x4 (.row 0 6 [[v1,v2,.imm (s.posted.map Posted.enc),v3,v4,.int .i64 s.next]]))
 have p2:=(((o2.on0 g2 _).on g2 x3 _).on g2 x4 (.row 0 6 [[v1,v2,.imm (s.posted.map Posted.enc),v3,v4,.int .i64 s.next]]))
 have p3:=((o3.on0 g3 _).on g3 x4 (.row 0 6 [[v1,v2,.imm (s.posted.map Posted.enc),v3,v4,.int .i64 s.next]]))
 have p4:=(o4.on0 g4 (.row 0 6 [[v1,v2,.imm (s.posted.map Posted.enc),v3,v4,.int .i64 s.next]]))
 have e1:=o1.one
 have e2:=o2.one
 have e3:=o3.one
 have e4:=o4.one
 have f1:=o1.cells
 have f2:=o2.cells
 have f3:=o3.cells
 have f4:=o4.cells
 have r0:=c0.r0
 have r1:=c1.r0
 have r2:=c2.r0
 have r3:=c3.r0
 have r4:=c4.r0
 simp only [State.enc] at r0 r1 hA0
 simp only [zst] at hA0
 delta Tryz.f102;simp only [↓cw,↓reduceIte,Nat.reduceLT,kk,iI,←hA0,r0,q1,e1,f1,r1,q2,e2,f2,r2,q3,e3,f3,r3,q4,e4,f4,r4]
 have w4:=d4.wf
 cases hp:s.posted with
 | nil=>
  have q5:eE 12 128 .nils (.imm (([]:List Posted).map Posted.enc)) none ⟨A4.next,A4.heap.put 0 (.row 0 6 [[v1,v2,.imm (([]:List Posted).map Posted.enc),v3,v4,.int .i64 s.next]])⟩=.ok (.nils,⟨A4.next,A4.heap.put 0 (.row 0 6 [[v1,v2,.imm (([]:List Posted).map Posted.enc),v3,v4,.int .i64 s.next]])⟩):=rfl
  rw [hp] at k p1 p2 p3 p4 d4
  have d5:=d4.put [v1,v2,.nils,v3,v4,.int .i64 s.next]
  have d6:=d5.r1
  simp only [zst] at d6
  simp only [↓cw,↓reduceIte,Nat.reduceLT,q5,kk]
  refine ⟨1,?_⟩
  have u1:=(((p1.on0 g1 (.row 0 6 [[v1,v2,.nils,v3,v4,.int .i64 s.next]])).put (k:=1) (m:=A4.next) (b:=.row 0 6 [[v1,v2,.nils,v3,v4,.int .i64 s.next]]) (Nat.le_refl _) fun a ver m hv=>by have:=g1 a (by rw [hv];rfl);omega).out fun _=>rfl)
  have u2:=(((p2.on0 g2 (.row 0 6 [[v1,v2,.nils,v3,v4,.int .i64 s.next]])).put (k:=1) (m:=A4.next) (b:=.row 0 6 [[v1,v2,.nils,v3,v4,.int .i64 s.next]]) (Nat.le_refl _) fun a ver m hv=>by have:=g2 a (by rw [hv];rfl);omega).out fun _=>rfl)
  have u3:=(((p3.on0 g3 (.row 0 6 [[v1,v2,.nils,v3,v4,.int .i64 s.next]])).put (k:=1) (m:=A4.next) (b:=.row 0 6 [[v1,v2,.nils,v3,v4,.int .i64 s.next]]) (Nat.le_refl _) fun a ver m hv=>by have:=g3 a (by rw [hv];rfl);omega).out fun _=>rfl)
  have u4:=(((p4.on0 g4 (.row 0 6 [[v1,v2,.nils,v3,v4,.int .i64 s.next]])).put (k:=1) (m:=A4.next) (b:=.row 0 6 [[v1,v2,.nils,v3,v4,.int .i64 s.next]]) (Nat.le_refl _) fun a ver m hv=>by have:=g4 a (by rw [hv];rfl);omega).out fun _=>rfl)
  simp only [↓cw,↓reduceIte,Nat.reduceLT,aA9,kk,Int.lt_irrefl,if_false,e1,e2,e3,e4,f1,f2,f3,f4,d6,show ((0:Nat):Int)=0 from rfl]
  rw [aV5 u1 u2 u3 u4]
  exact k .nils _ ⟨fun a b h=>h,Nat.le_refl _,fun w=>w⟩ (Own.nil _ _ _)
 | cons pp l=>
  obtain ⟨P,hP⟩:∃ P,P=pp::l:=⟨_,rfl⟩
  have hPl:P.length=l.length+1:=by rw [hP];rfl
  have hsP:s.posted=P:=by rw [hp,hP]
  have hPlen:P.length≤100000:=by rw [←hsP];exact hbp
  have hbq:∀ p∈P,p.total.parts.length≤100000:=fun p h=>b.bq p (by rw [hsP];exact h)
  obtain ⟨a,ha⟩:∃ a,a=A4.next:=⟨_,rfl⟩
  rw [hp,←hP] at k p1 p2 p3 p4 d4 w4
  rw [←hP]
  have q5:eE 12 128 .nils (.imm (P.map Posted.enc)) none ⟨A4.next,A4.heap.put 0 (.row 0 6 [[v1,v2,.imm (P.map Posted.enc),v3,v4,.int .i64 s.next]])⟩=.ok (.sl a 0 12 0 P.length,⟨a+1,(A4.heap.put 0 (.row 0 6 [[v1,v2,.imm (P.map Posted.enc),v3,v4,.int .i64 s.next]])).put a (.row 0 12 (P.map Posted.enc))⟩):=by
   have a1:iQ 12 (P.map Posted.enc)=true∧(P.map Posted.enc).all aH=true:=cY (fun c hc=>by obtain ⟨y,_,rfl⟩:=List.mem_map.1 hc;exact aHx y)
   rw [hP] at a1 ⊢
   simp only [eE,aO]
   rw [if_pos a1]
   have hb2:l.length+1≤100000:=by omega
   simp only [List.map_cons,List.length_cons,List.length_map,eL,←ha]
   rw [if_pos (by unfold dR;omega)]
  simp only [↓cw,↓reduceIte,Nat.reduceLT,q5,kk,iI,show ((0:Nat)=a)=False by simp;omega]
  obtain ⟨cs5,hcs5⟩:∃ cs5,cs5=[v1,v2,.sl a 0 12 0 P.length,v3,v4,.int .i64 s.next]:=⟨_,rfl⟩
  obtain ⟨T,hT⟩:∃ T:St,T=⟨a+1,((A4.heap.put 0 (.row 0 6 [[v1,v2,.imm (P.map Posted.enc),v3,v4,.int .i64 s.next]])).put a (.row 0 12 (P.map Posted.enc))).put 0 (.row 0 6 [[v1,v2,.sl a 0 12 0 P.length,v3,v4,.int .i64 s.next]])⟩:=⟨_,rfl⟩
  have cT:Cp T cs5 zst:=by
   rw [hT,hcs5]
   exact Cp.put (S:=⟨a+1,(A4.heap.put 0 (.row 0 6 [[v1,v2,.imm (P.map Posted.enc),v3,v4,.int .i64 s.next]])).put a (.row 0 12 (P.map Posted.enc))⟩) ⟨hM (n:=A4.next) w4 (by omega) (by omega),by show 2≤a+1;omega,aG (n:=A4.next) (by omega) (aC _ _ _ _ _ _),aG (n:=A4.next) (by omega) d4.r1⟩ _
  have oT:∀ {n:Nat} {v:V} {es:List (List V)},Own E0 ⟨A4.next,A4.heap.put 0 (.row 0 6 [[v1,v2,.imm (P.map Posted.enc),v3,v4,.int .i64 s.next]])⟩ n v es→(∀ y,AM.blkOf v=some y→2≤y)→Own E0 T n v es:=fun o g=>by
   rw [hT]
   refine o.same (by show A4.next≤a+1;omega) fun y hy=>?_
   have h1:=g y hy
   have h2:y<A4.next:=(fG o hy).2
   show (((A4.heap.put 0 _).put a _).put 0 _).get y=(A4.heap.put 0 _).get y
   rw [Tr.get_put_neB _ _ _ _ trivial (by omega),Tr.get_put_neB _ _ _ _ trivial (by omega)]
  have gT:T.heap.get a=some (.row 0 12 (P.map Posted.enc)):=by
   rw [hT]
   show (((A4.heap.put 0 _).put a _).put 0 _).get a=_
   rw [Tr.get_put_neB _ _ _ _ trivial (by omega)];exact Tr.get_put_sameB _ _ _ trivial
  have nT:T.next=a+1:=by rw [hT]
  rw [←hT]
  have l1:∀ y,AM.blkOf v1=some y→2≤y∧y<a:=fun y hy=>⟨g1 y hy,by have:=b1 y hy;omega⟩
  have l2:∀ y,AM.blkOf v2=some y→2≤y∧y<a:=fun y hy=>⟨g2 y hy,by have:=b2 y hy;omega⟩
  have l3:∀ y,AM.blkOf v3=some y→2≤y∧y<a:=fun y hy=>⟨g3 y hy,by have:=b3 y hy;omega⟩
  have l4:∀ y,AM.blkOf v4=some y→2≤y∧y<a:=fun y hy=>⟨g4 y hy,by have:=b4 y hy;omega⟩
  refine aF P (step:=fun (_:Unit) (_:Posted)=>(.inr ():Unit⊕Unit)) (fin:=id) (fun i _ vs S'=>vs=[.int .i64 (i:Int)]∧Cp S' cs5 zst∧a<S'.next∧Own E0 S' 5 v1 (s.table.map Rate.enc)∧Own E0 S' 4 v2 (s.ser.map Ser.enc)∧Own E0 S' 2 v3 (s.book.map Bal.enc)∧Own E0 S' 5 v4 (s.sess.map Sess.enc) ∧
   ∃ es,S'.heap.get a=some (.row 0 12 es)∧es.length=P.length∧∀ (j:Nat) (p:Posted),P[j]?=some p→∃ u,es[j]?=some (p.cells u)∧((i≤j∧u=.imm (p.total.parts.map Part.enc))∨(j<i∧Own E0 S' 4 u (p.total.parts.map Part.enc)∧∀ y,AM.blkOf u=some y→a<y))) (fun _=>True) ?_ ?_ (s:=()) ⟨rfl,cT,by omega,oT p1 g1,oT p2 g2,oT p3 g3,oT p4 g4,_,gT,List.length_map ..,fun j p hj=>⟨_,by rw [List.getElem?_map,hj];rfl,.inl ⟨Nat.zero_le _,rfl⟩⟩⟩ trivial
  ·rintro i p _ vs S' hi ⟨rfl,c,hlt,u1,u2,u3,u4,es,hg,hel,hes⟩ aE H
   have hil:=(List.getElem?_eq_some_iff.1 hi).1
   have hpl:=hbq p (List.mem_of_getElem? hi)
   have tw:=c.two
   obtain ⟨u0,hu,hu2⟩:=hes i p hi
   have hu2:u0=.imm (p.total.parts.map Part.enc):=by
    rcases hu2 with h | h
    ·exact h.2
    ·exact absurd h.1 (Nat.lt_irrefl _)
   subst hu2
   have fk:∀ y,S'.next≤y→S'.heap.get y=none:=fun y hy=>fresh c.wf hy
   obtain ⟨u,S2,q2,w2,n2,ou,bu,keep2⟩:=bDq (b:=40) aOp p.total.parts c.wf (k:=S'.next+10) (m:=S'.next+15) (by omega) (by omega) (by omega) (by unfold dR;omega)
   have hg2:S2.heap.get a=some (.row 0 12 es):=by rw [keep2 a (by omega)];exact hg
   have hld:∀ m,jH none (.ptr a 0 i 8) ⟨m,S'.heap⟩=.ok (.imm (p.total.parts.map Part.enc)):=fun m=>by
    have:aA ⟨m,S'.heap⟩ a 0=.ok (12,es):=bW hg
    simp only [↓cw,↓reduceIte,Nat.reduceLT,ldP,this,hu,Posted.cells,kk]
   have hix:gS 12 (.sl a 0 12 0 P.length) (.int .i64 (i:Int))=.ok (.ptr a 0 i 0):=by
    simp only [gS,jJ hil,if_true,Nat.zero_add]
   have hst:fV 1 (.ptr a 0 i 8) u S2=.ok ⟨S2.next,S2.heap.put a (.row 0 12 (es.set i (p.cells u)))⟩:=by
    have hg':aA S2 a 0=.ok (12,es):=bW hg2
    simp only [stP,hg',hu]
    rw [if_pos ⟨by rw [ou.cells];rfl,by rw [ou.cells];simp [aH,ou.one],by rw [ou.cells];show 8+1≤12;decide⟩,ou.cells]
    rfl
   have r0:=aQ c.r0 (keep2 0 (by omega))
   have r1:=aQ c.r1 (keep2 1 (by omega))
   have rc:=c.r0
   simp only [hcs5] at r0 rc
   simp only [↓cw,↓reduceIte,Nat.reduceLT,kk,bL hi,gm,rc,hix,show (0+5+3:Nat)=8 from rfl,show (5+3:Nat)=8 from rfl,hld,q2,r0,hst,iE (show i<1000000000 by omega)]
   have ok:∀ {n:Nat} {v:V} {el:List (List V)},Own E0 S' n v el→(∀ y,AM.blkOf v=some y→y≠a)→Own E0 ⟨S2.next,S2.heap.put a (.row 0 12 (es.set i (p.cells u)))⟩ n v el:=fun o g=>o.same (by show S'.next≤S2.next;omega) fun y hy=>by
    have:=(fG o hy).2
    show (S2.heap.put a _).get y=_
    rw [Tr.get_put_neB _ _ _ _ trivial (g y hy),keep2 y (by omega)]
   refine H _ _ ⟨rfl,⟨hM (n:=S2.next) w2 (by omega) (Nat.le_refl _),by show 2≤S2.next;omega,aG (n:=S2.next) (by omega) (by rw [hcs5];exact r0),aG (n:=S2.next) (by omega) r1⟩,by show a<S2.next;omega,ok u1 (fun y hy=>by have:=l1 y hy;omega),ok u2 (fun y hy=>by have:=l2 y hy;omega),ok u3 (fun y hy=>by have:=l3 y hy;omega),ok u4 (fun y hy=>by have:=l4 y hy;omega),_,Tr.get_put_sameB _ _ _ trivial,by rw [List.length_set];exact hel,fun j q hj=>?_⟩
   by_cases e:j=i
   ·subst e
    rw [hi] at hj
    cases hj
    refine ⟨u,List.getElem?_set_self (by omega),.inr ⟨Nat.lt_succ_self _,ou.same (Nat.le_refl _) fun y hy=>?_,fun y hy=>by have:=bu y hy;omega⟩⟩
    have:=bu y hy
    exact Tr.get_put_neB _ _ _ _ trivial (by omega)
   ·obtain ⟨x,hx1,hx2⟩:=hes j q hj
    refine ⟨x,by rw [List.getElem?_set_ne (Ne.symm e)];exact hx1,?_⟩
    rcases hx2 with h | ⟨h1,h2,h3⟩
    ·exact .inl ⟨by omega,h.2⟩
    ·exact .inr ⟨by omega,ok h2 (fun y hy=>by have:=h3 y hy;omega),h3⟩
  ·rintro _ vs S' ⟨rfl,c,hlt,u1,u2,u3,u4,es,hg,hel,hes⟩ aE H
   have tw:=c.two
   have rc:=c.r0
   have rd:=c.r1
   simp only [hcs5] at rc
   simp only [zst] at rd
   simp only [↓cw,↓reduceIte,Nat.reduceLT,kk,Int.lt_irrefl,if_false,gm,rc,rd,e1,e2,e3,e4,f1,f2,f3,f4]
   obtain ⟨S3,hS3⟩:∃ S3:St,S3=⟨S'.next,S'.heap.put 1 (.row 0 6 [[v1,v2,.sl a 0 12 0 P.length,v3,v4,.int .i64 s.next]])⟩:=⟨_,rfl⟩
   have kk3:∀ {n:Nat} {v:V} {el:List (List V)},Own E0 S' n v el→(∀ y,AM.blkOf v=some y→2≤y)→Own E0 S3 n v el:=fun o g=>by
    rw [hS3]
    exact o.same (Nat.le_refl _) fun y hy=>Tr.get_put_neB _ _ _ _ trivial (by have:=g y hy;omega)
   have g3':S3.heap.get a=some (.row 0 12 es):=by rw [hS3];show (S'.heap.put 1 _).get a=_;rw [Tr.get_put_neB _ _ _ _ trivial (by omega)];exact hg
   rw [←hS3]
   have o1':=kk3 u1 g1
   have o2':=kk3 u2 g2
   have o3':=kk3 u3 g3
   have o4':=kk3 u4 g4
   have el:∀ (j:Nat) (p:Posted),P[j]?=some p→∃ u,es[j]?=some (p.cells u)∧Own E0 S3 4 u (p.total.parts.map Part.enc)∧AM.blkOf u≠some a:=fun j p hj=>by
    obtain ⟨u,h1,h2⟩:=hes j p hj
    have hjl:=(List.getElem?_eq_some_iff.1 hj).1
    rcases h2 with h | ⟨_,h2,h3⟩
    ·omega
    ·exact ⟨u,h1,kk3 h2 (fun y hy=>by have:=h3 y hy;omega),fun e=>by have:=h3 a e;omega⟩
   have hm:lX (iZ S3 3) es=.ok (P.map Posted.enc):=aOq (by rw [List.length_map];exact hel) fun j x hx=>by
    have hjl:j<P.length:=by rw [←hel];exact (List.getElem?_eq_some_iff.1 hx).1
    have hj:P[j]?=some P[j]:=List.getElem?_eq_getElem hjl
    obtain ⟨u,h1,h2,_⟩:=el j _ hj
    rw [hx] at h1
    cases h1
    refine ⟨P[j].enc,by rw [List.getElem?_map,hj];rfl,?_⟩
    have hf:=h2.frzN (cR (fun _=>rfl) _) 1
    simp only [iZ,Posted.cells,frzVs,cM] at hf ⊢
    rw [hf]
    rfl
   have hnb:∀ {n:Nat} {v:V} {el:List (List V)},Own E0 S3 n v el→el.all cloVs=true→(∀ y,AM.blkOf v=some y→y≠a)→a ∉ fT (jV (gO S3 3) S3) v:=fun o hc g h=>g a (o.blks hc 2 h) rfl
   have hb5:a ∉ lZ (gO S3 3) es:=fun h=>by
    obtain ⟨x,h1,h2⟩:=aJu h
    obtain ⟨j,hj,rfl⟩:=List.getElem_of_mem h1
    have hjl:j<P.length:=by omega
    obtain ⟨u,q1,q2,q3⟩:=el j _ (List.getElem?_eq_getElem hjl)
    rw [List.getElem?_eq_getElem hj] at q1
    rw [Option.some.inj q1] at h2
    simp only [gO,Posted.cells,slsVs,fT,List.nil_append,List.append_nil] at h2
    exact q3 (q2.blks (cR (fun _=>rfl) _) 1 h2)
   rw [aY6 (o1'.out fun _=>rfl) (o2'.out fun _=>rfl) (o3'.out fun _=>rfl) (o4'.out fun _=>rfl) g3' hm (hnb o1' (cR (fun _=>rfl) _) fun y hy=>by have:=l1 y hy;omega) (hnb o2' (cR (fun _=>rfl) _) fun y hy=>by have:=l2 y hy;omega) (hnb o3' (cR (fun _=>rfl) _) fun y hy=>by have:=l3 y hy;omega) (hnb o4' (cR (fun _=>rfl) _) fun y hy=>by have:=l4 y hy;omega) hb5]
   refine k _ _ (Ext.new w _) ⟨.inr ⟨S.next,0,[],by rw [List.length_map],Nat.le_refl _,Nat.lt_succ_self _,?_⟩,fun c hc=>by obtain ⟨y,_,rfl⟩:=List.mem_map.1 hc;exact aHx y⟩
   rw [List.append_nil];exact Tr.get_put_sameB _ _ _ trivial
def srV (r:State×Rep):V:=.tup [.agg [.imm (r.1.table.map Rate.enc),.imm (r.1.ser.map Ser.enc),.imm (r.1.posted.map Posted.enc),.imm (r.1.book.map Bal.enc),.imm (r.1.sess.map Sess.enc),.int .i64 r.1.next],.agg [.int .i64 r.2.why,.int .i64 r.2.number,.int .i64 r.2.gross]]
theorem bPh (s:State) (S:St) (K:KW):C 104 [.agg [.imm (s.table.map Rate.enc),.imm (s.ser.map Ser.enc),.imm (s.posted.map Posted.enc),.imm (s.book.map Bal.enc),.imm (s.sess.map Sess.enc),.int .i64 s.next]] S K=K (srV (fB s)) S:=by
 refine (bKw rfl ?_).eq S K
 delta Tryz.f104;simp only [↓cw,↓reduceIte,Nat.reduceLT,kk,iI,gm,mF,bJ6,fB,srV]
 by_cases c1:8≤s.sess.length
 ·simp only [↓cw,↓reduceIte,Nat.reduceLT,c1,show (8:Int)≤(s.sess.length:Int) by omega,kk,iI,gm,mF,oo,why,true_or,if_true]
 by_cases c2:1099511627776≤s.next
 ·simp only [↓cw,↓reduceIte,Nat.reduceLT,c1,c2,show ¬ (8:Int)≤(s.sess.length:Int) by omega,kk,iI,gm,mF,oo,why,or_true,if_true,if_false]
 simp only [↓cw,↓reduceIte,Nat.reduceLT,c1,c2,show ¬ (8:Int)≤(s.sess.length:Int) by omega,kk,iI,gm,mF,bJ6,or_self,if_false]
 by_cases c3:(lT s.sess s.next).2=0
 ·simp only [↓cw,↓reduceIte,Nat.reduceLT,c3,kk,iI,gm,oo,why,not_true_eq_false,if_false]
 ·simp only [↓cw,↓reduceIte,Nat.reduceLT,c3,kk,iI,gm,mF,oo,why,not_false_eq_true,if_true]
theorem g31 (S:St) (K:KW):C 31 [] S K=K (.agg [.imm ([]:List (List V)),.imm [],.imm [],.imm [],.imm [],.int .i64 1]) S:=by
 refine (v31 rfl ?_).eq S K
 delta Tryz.f31;simp only [↓cw,↓reduceIte,Nat.reduceLT,kk,oo]
end Go.Proofs.YtoaibmbldmckaaaGreat
end
section
namespace Go.AM
theorem Own.in3 {S0 S:St} {n:Nat} {v:V} {α:Type} {enc:α→List V} {l:List α} (h:Own S0 S n v (l.map enc)) (hc:∀ x,cloVs (enc x)=true) {x y:V} {bs:List V} (hx:yD x=true) (hy:yD y=true) (hb:cloVs bs=true):
  frzVs kO (lY (iZ S 3) S) [.agg (x::y::v::bs)]=.ok [.agg (x::y::.imm (l.map enc)::bs)]∧ptrsVs [.agg (x::y::v::bs)]=[]:=by
 constructor
 ·simp only [frzVs,cM,tU x hx,tU y hy,h.out hc,clo_frzs bs hb]
 ·simp only [ptrsVs,uM,yE x hx,yE y hy,h.ptrs,clo_ptrs bs hb,List.append_nil]
theorem aOr:∀ (l:List Nat) (h:Tr Blk) {y:Nat},y ∉ l→(rO l h).get y=h.get y
 | [],_,_,_=>rfl
 | a::l,h,y,hy=>by
  simp only [List.mem_cons,not_or] at hy
  simp only [rO]
  rw [aOr l _ hy.2,Tr.get_cut,if_neg hy.1]
theorem Fn.cutE {P:Program} {pl:jB} {f:FuncId} {bs:List V} {v:V} (h:Fn P pl f bs v) {p:Nat→Option (List bM)} (hpl:pl f=some (.val p)) (hc:cloVs bs=true) {args:List V} {S:St} (hb:frzVs kO (lY (iZ S 3) S) args=.ok bs) (hp:ptrsVs args=[]):
  ∃ h':Tr Blk,(∀ y,y ∉ slsVs (jV (gO S 3) S) args→h'.get y=S.heap.get y)∧∀ K,W P pl f args S K=K v ⟨S.next,h'⟩:=by
 obtain ⟨N,h⟩:=h ⟨0,.nil⟩
 obtain ⟨h',hh'⟩:∃ h',h'=(bif jX v&&uN [] then S.heap else rO (slsVs (jV (gO S 3) S) args++[]) S.heap):=⟨_,rfl⟩
 refine ⟨h',fun y hy=>?_,fun K=>aL6 ⟨N+1,fun k hk'=>?_⟩ K⟩
 ·rw [hh']
  cases jX v&&uN []
  ·exact aOr _ _ (by rw [List.append_nil];exact hy)
  ·rfl
 obtain ⟨k,rfl⟩:∃ m,k=m+1:=⟨k - 1,by omega⟩
 have:=h (k+1) (by omega)
 simp only [eV,hpl] at this ⊢
 unfold xE at this
 have e1:gG (ptrsVs bs)=[]:=by rw [clo_ptrs bs hc];rfl
 have e2:slsVs (jV (gO (⟨0,.nil⟩:St) 3) ⟨0,.nil⟩) bs=[]:=clo_sls bs hc
 rw [e1,e2] at this
 simp only [clo_frzs bs hc,jA,dH,List.append_nil,List.any_nil,cond_false,List.length_nil,xD,tO,sM] at this
 split at this
 ·cases this
 ·rename_i v0 S0 hrun
  split at this
  ·cases this
  ·rename_i v' hv'
   have hv:v'=v:=(Prod.mk.inj (Except.ok.inj this)).1
   subst hv
   have h1:gG (ptrsVs args)=[]:=by rw [hp];rfl
   have hi:(fun a=>rN a 0 ([]:List Nat))=kO:=rfl
   have hh:∀ l:List Nat,(l.any fun a=>gQ a [])=false:=by intro l;rw [List.any_eq_false];intro a _;simp [gQ]
   unfold xE
   rw [h1]
   simp only [hi,hb,jA,dH,hh,cond_false,List.length_nil,xD,hrun,hv',tO,sM,List.append_nil,pV,hh']
end Go.AM
namespace Go.Proofs.YtoaibmbldmckaaaGreat
open Go.AM Tryz
set_option linter.unusedVariables false
set_option linter.unusedSimpArgs false
set_option maxRecDepth 100000
theorem a24 {S0 S:St} {s:State} {v:V} (h:Own S0 S 12 v (s.posted.map Posted.enc)) (K:KW):C 24 [.agg [.imm (s.table.map Rate.enc),.imm (s.ser.map Ser.enc),v,.imm (s.book.map Bal.enc),.imm (s.sess.map Sess.enc),.int .i64 s.next]] S K=K (.bool (bB s)) S:=by
 obtain ⟨h1,h2⟩:=h.in3 (fun _=>rfl) (x:=.imm (s.table.map Rate.enc)) (y:=.imm (s.ser.map Ser.enc)) (bs:=[.imm (s.book.map Bal.enc),.imm (s.sess.map Sess.enc),.int .i64 s.next]) rfl rfl rfl
 exact (Fn.back fun S K=>g24 s S K).frz bKr rfl h1 h2 (.inl rfl) K
theorem aV6 (x y z u:List V) (n m k j:Nat):∃ S1:St,S1=⟨3+1,(((Tr.nil.put 0 (.row 0 n [x])).put 1 (.row 0 m [y])).put 2 (.row 0 k [z])).put 3 (.row 0 j [u])⟩∧WF S1∧S1.next=4∧aA S1 0 0=.ok (n,[x])∧aA S1 1 0=.ok (m,[y])∧aA S1 2 0=.ok (k,[z])∧aA S1 3 0=.ok (j,[u]):=
 ⟨_,rfl,hM (n:=3) (hM (n:=2) (hM (n:=1) (hM nK (by decide) (by decide)) (by decide) (by decide)) (by decide) (by decide)) (by decide) (by decide),rfl,rfl,rfl,rfl,rfl⟩
theorem g33 (s:State) (c:Call) (b:Bnd s) (hl:c.cmd.lines.length<1000000) (S:St) (K:KW):C 33 [.agg [.imm (s.table.map Rate.enc),.imm (s.ser.map Ser.enc),.imm (s.posted.map Posted.enc),.imm (s.book.map Bal.enc),.imm (s.sess.map Sess.enc),.int .i64 s.next],
  .agg [.int .i64 c.session,.int .i64 c.seq,.int .i64 c.cmd.kind,.str c.cmd.series,.int .i64 c.cmd.limit,.str c.cmd.row.cat,.int .i64 c.cmd.row.day.y,.int .i64 c.cmd.row.day.m,.int .i64 c.cmd.row.day.d,.int .i64 c.cmd.row.bp,.int .i64 c.cmd.day.y,.int .i64 c.cmd.day.m,.int .i64 c.cmd.day.d,.imm (c.cmd.lines.map Line.enc),.str c.cmd.of.ser,.int .i64 c.cmd.of.num,.int .i64 c.cmd.session]] S K=K (srV (eU s c)) S:=by
 refine (v33 rfl ?_).eq S K
 obtain ⟨A,hA,wA,nA,r0,r1,r2,r3⟩:=aV6 s.enc [.int .i64 c.session,.int .i64 c.seq,.int .i64 c.cmd.kind,.str c.cmd.series,.int .i64 c.cmd.limit,.str c.cmd.row.cat,.int .i64 c.cmd.row.day.y,.int .i64 c.cmd.row.day.m,.int .i64 c.cmd.row.day.d,.int .i64 c.cmd.row.bp,.int .i64 c.cmd.day.y,.int .i64 c.cmd.day.m,.int .i64 c.cmd.day.d,.imm (c.cmd.lines.map Line.enc),.str c.cmd.of.ser,.int .i64 c.cmd.of.num,.int .i64 c.cmd.session] zst [.int .i64 0,.int .i64 0,.int .i64 0] 6 17 6 3
 simp only [State.enc] at r0 hA
 simp only [zst] at hA r2
 simp only [m33,kk,←hA,iI,r0]
 refine bJs wA s b fun v S6 x6 own6=>?_
 have n6:4≤S6.next:=by have:=x6.next;omega
 have w6:=x6.wf wA
 have bv:∀ y,AM.blkOf v=some y→4≤y∧y<S6.next:=fun y hy=>by have:=fG own6 hy;omega
 have a0:=x6.row r0
 have a1:=x6.row r1
 have a2:=x6.row r2
 have a3:=x6.row r3
 have own6:=own6.weaken (A:=E0) (Nat.zero_le _)
 have o1:=own6.one
 have o2:=own6.cells
 obtain ⟨S7,hS7⟩:∃ S7:St,S7=⟨S6.next,S6.heap.put 0 (.row 0 6 [s.cells v])⟩:=⟨_,rfl⟩
 have st:StAt S7 0 s v:=by
  rw [hS7]
  exact ⟨aC _ _ _ _ _ _,own6.same (Nat.le_refl _) fun y hy=>Tr.get_put_neB _ _ _ _ trivial (by have:=bv y hy;omega),hM (n:=S6.next) w6 (by omega) (Nat.le_refl _),fun e=>by have:=bv _ e;omega⟩
 have b1:aA S7 1 0=aA A 1 0:=by rw [hS7,r1];exact aG (n:=S6.next) (by decide) a1
 have b2:aA S7 2 0=aA A 2 0:=by rw [hS7,r2];exact aG (n:=S6.next) (by decide) a2
 have b3:aA S7 3 0=aA A 3 0:=by rw [hS7,r3];exact aG (n:=S6.next) (by decide) a3
 rw [r1] at b1
 rw [r2] at b2
 rw [r3] at b3
 have n7:S7.next=S6.next:=by rw [hS7]
 simp only [State.cells] at hS7
 have ra:=st.row
 simp only [State.cells] at ra
 have h24:=a24 st.own
 have hout:∀ (S8:St) (v8:V) (r:State×Rep),Own E0 S8 12 v8 (r.1.posted.map Posted.enc)→gK S8 (.tup [.agg [.imm (r.1.table.map Rate.enc),.imm (r.1.ser.map Ser.enc),v8,.imm (r.1.book.map Bal.enc),.imm (r.1.sess.map Sess.enc),.int .i64 r.1.next],.agg [.int .i64 r.2.why,.int .i64 r.2.number,.int .i64 r.2.gross]])=.ok (srV r):=by
  intro S8 v8 r o
  have:=o.out fun _=>rfl
  simp only [oo,this,srV]
 have hput:∀ (S8:St) (v8:V) (s8:State) (x y:Blk),Own E0 S8 12 v8 (s8.posted.map Posted.enc)→(∀ z,AM.blkOf v8=some z→4≤z)→Own E0 ⟨S8.next,(S8.heap.put 2 x).put 3 y⟩ 12 v8 (s8.posted.map Posted.enc):=fun S8 v8 s8 x y o g=>o.same (Nat.le_refl _) fun z hz=>by
  have:=g z hz
  show ((S8.heap.put 2 x).put 3 y).get z=_
  rw [Tr.get_put_neB _ _ _ _ trivial (by omega),Tr.get_put_neB _ _ _ _ trivial (by omega)]
 simp only [kk,a0,o1,o2,←hS7,ra,h24,gm,mF]
 cases c1:bB s
 ·simp only [c1,kk,if_true,mF,gm,ra,b2,b3,o1,o2,iI]
  have:=hout ⟨S7.next+4,(S7.heap.put 2 (.row 0 6 [s.cells v])).put 3 (.row 0 3 [[.int .i64 1,.int .i64 0,.int .i64 0]])⟩ v (s,why 1) ((hput S7 v s _ _ st.own fun z hz=>(bv z hz).1).bump 4)
  simp only [eU,c1,if_true]
  exact this
 simp only [c1,kk,Bool.true_eq_false,if_false,b1]
 have hk17:c.cmd.kind<1∨8<c.cmd.kind→aCz C (fun v0 S0=>gK S0 v0=Except.ok (srV (eU s c))) (V.ptr 0 0 0 0) (V.ptr 1 0 0 0) (V.ptr (1+1) 0 0 0) (V.ptr (1+1+1) 0 0 0) (V.bool true) S7:=by
  intro h
  have:=hout ⟨S7.next+4,(S7.heap.put 2 (.row 0 6 [s.cells v])).put 3 (.row 0 3 [[.int .i64 17,.int .i64 0,.int .i64 0]])⟩ v (s,why 17) ((hput S7 v s _ _ st.own fun z hz=>(bv z hz).1).bump 4)
  simp only [aCz,kk,if_true,mF,gm,ra,b2,b3,o1,o2,iI,eU,c1,Bool.true_eq_false,if_false,h]
  exact this
 by_cases c2:c.cmd.kind<1
 ·simp only [c2,if_true]
  exact hk17 (.inl c2)
 by_cases c3:8<c.cmd.kind
 ·simp only [c2,c3,if_false,decide_true]
  exact hk17 (.inr c3)
 have hap:eU s c=if c.cmd.kind=6 then fB s else if (cB s.sess c.session c.seq).2.2≠0 then (s,why (cB s.sess c.session c.seq).2.2) else if (cB s.sess c.session c.seq).2.1=true then (s,(cB s.sess c.session c.seq).1) else hJ (rX s c.cmd) c:=by
  simp only [eU,c1,c2,c3,Bool.true_eq_false,if_false,or_self]
 rw [hap]
 simp only [c2,c3,if_false,decide_false,aCz,kk,Bool.false_eq_true,b1,ra]
 by_cases c6:c.cmd.kind=6
 ·obtain ⟨h1,h2⟩:=st.own.in3 (fun _=>rfl) (x:=.imm (s.table.map Rate.enc)) (y:=.imm (s.ser.map Ser.enc)) (bs:=[.imm (s.book.map Bal.enc),.imm (s.sess.map Sess.enc),.int .i64 s.next]) rfl rfl rfl
  obtain ⟨h',hk',hC⟩:=(Fn.back fun S K=>bPh s S K).cutE bEi rfl h1 h2
  have hno:∀ y,y<4→h'.get y=S7.heap.get y:=fun y hy=>hk' y fun hm=>by
   simp only [slsVs,fT,List.nil_append,List.append_nil] at hm
   have:=st.own.blks (cR (fun _=>rfl) _) 2 hm
   have:=bv _ this
   omega
  have d2:aA ⟨S7.next,h'⟩ 2 0=.ok (6,[[.nils,.nils,.nils,.nils,.nils,.int .i64 0]]):=aQ b2 (hno 2 (by decide))
  have d3:aA ⟨S7.next,h'⟩ 3 0=.ok (3,[[.int .i64 0,.int .i64 0,.int .i64 0]]):=aQ b3 (hno 3 (by decide))
  simp only [c6,if_true,hC,srV,kk,d2,d3,iI,gm]
  simp only [oo]
 simp only [c6,if_false,kk,bJ5]
 obtain ⟨B,hB⟩:∃ B:St,B=⟨S7.next+1,(S7.heap.put S7.next (.row 0 3 [[.int .i64 0,.int .i64 0,.int .i64 0]])).put S7.next (.row 0 3 [[.int .i64 (cB s.sess c.session c.seq).1.why,.int .i64 (cB s.sess c.session c.seq).1.number,.int .i64 (cB s.sess c.session c.seq).1.gross]])⟩:=⟨_,rfl⟩
 have nB:B.next=S7.next+1:=by rw [hB]
 have nk7:=st.new (k:=S7.next) (Nat.le_refl _)
 have stB:StAt B 0 s v:=by rw [hB];exact (st.put (k:=S7.next) (m:=S7.next+1) (by omega) nk7 (by omega) (Nat.le_succ _)).put (by omega) nk7 (by omega) (Nat.le_refl _)
 have kB:∀ {y n:Nat} {el:List (List V)},y<4→aA S7 y 0=.ok (n,el)→aA B y 0=.ok (n,el):=fun hy hr=>by rw [hB];exact aG (n:=S7.next+1) (by omega) (aG (n:=S7.next) (by omega) hr)
 have rB:aA B S7.next 0=.ok (3,[[.int .i64 (cB s.sess c.session c.seq).1.why,.int .i64 (cB s.sess c.session c.seq).1.number,.int .i64 (cB s.sess c.session c.seq).1.gross]]):=by rw [hB];exact aC _ _ _ _ _ _
 have e0:=kB (by decide) ra
 have e1:=kB (by decide) b1
 have e2:=kB (by decide) b2
 have e3:=kB (by decide) b3
 have hhB:(S7.heap.put S7.next (.row 0 3 [[.int .i64 0,.int .i64 0,.int .i64 0]])).put S7.next (.row 0 3 [[.int .i64 (cB s.sess c.session c.seq).1.why,.int .i64 (cB s.sess c.session c.seq).1.number,.int .i64 (cB s.sess c.session c.seq).1.gross]])=B.heap:=by rw [hB]
 have oB:∀ x y,Own E0 ⟨B.next,(B.heap.put 2 x).put 3 y⟩ 12 v (s.posted.map Posted.enc):=fun x y=>hput B v s x y stB.own fun z hz=>(bv z hz).1
 have z3:(S7.next=2)=False:=by simp;omega
 have z4:(S7.next=3)=False:=by simp;omega
 simp only [hhB,←nB,gm,e0,e1,rB,mF]
 by_cases c7:(cB s.sess c.session c.seq).2.2=0
 rotate_left
 ·have:=hout ⟨B.next+5,(B.heap.put 2 (.row 0 6 [s.cells v])).put 3 (.row 0 3 [[.int .i64 (cB s.sess c.session c.seq).2.2,.int .i64 0,.int .i64 0]])⟩ v (s,why (cB s.sess c.session c.seq).2.2) ((oB _ _).bump 5)
  simp only [c7,kk,e0,e2,e3,gm,mF,o1,o2,iI,not_false_eq_true,if_true,ne_eq]
  exact this
 cases c8:(cB s.sess c.session c.seq).2.1
 rotate_left
 ·have:=hout ⟨B.next+4,(B.heap.put 2 (.row 0 6 [s.cells v])).put 3 (.row 0 3 [[.int .i64 (cB s.sess c.session c.seq).1.why,.int .i64 (cB s.sess c.session c.seq).1.number,.int .i64 (cB s.sess c.session c.seq).1.gross]])⟩ v (s,(cB s.sess c.session c.seq).1) ((oB _ _).bump 4)
  simp only [c7,c8,kk,e0,e2,e3,rB,gm,mF,o1,o2,iI,z3,z4,not_true_eq_false,if_true,if_false,ne_eq]
  exact this
 simp only [c7,c8,kk,e0,e1,gm,not_true_eq_false,if_false,Bool.false_eq_true,ne_eq]
 obtain ⟨hq40,hqok⟩:=vX (aEl c1)
 refine bPg stB c.cmd hl (by have:=b.bs;omega) (by omega) (fun p hp=>sS (hqok p hp).2) (by have:=b.bb;omega) fun S4 v4 st4 mv4=>?_
 have n4:=mv4.next
 obtain ⟨s',hs'⟩:∃ s',s'=(rX s c.cmd).1:=⟨_,rfl⟩
 obtain ⟨r,hr⟩:∃ r,r=(rX s c.cmd).2:=⟨_,rfl⟩
 have hdo:rX s c.cmd=(s',r):=by rw [hs',hr]
 rw [hdo] at st4 ⊢
 have v4b:∀ y,AM.blkOf v4=some y→4≤y∧y<S4.next:=fun y hy=>by
  have h2:=(fG st4.own hy).2
  rcases mv4.fresh y hy with h | h
  ·have:=bv y h;omega
  ·omega
 have kv:∀ y,y<4→AM.blkOf v≠some y:=fun y hy e=>by have:=bv y e;omega
 have f1:=aQ e1 (mv4.keep 1 (by omega) (by decide) (kv 1 (by decide)))
 have f2:=aQ e2 (mv4.keep 2 (by omega) (by decide) (kv 2 (by decide)))
 have f3:=aQ e3 (mv4.keep 3 (by omega) (by decide) (kv 3 (by decide)))
 have nk4:AM.blkOf v4≠some S4.next:=fun e=>by have:=v4b _ e;omega
 obtain ⟨D,hD⟩:∃ D:St,D=⟨S4.next+1,(S4.heap.put S4.next (.row 0 3 [[.int .i64 0,.int .i64 0,.int .i64 0]])).put S4.next (.row 0 3 [[.int .i64 r.why,.int .i64 r.number,.int .i64 r.gross]])⟩:=⟨_,rfl⟩
 have nD:D.next=S4.next+1:=by rw [hD]
 have stD:StAt D 0 s' v4:=by rw [hD];exact (st4.put (k:=S4.next) (m:=S4.next+1) (by omega) nk4 (by omega) (Nat.le_succ _)).put (by omega) nk4 (by omega) (Nat.le_refl _)
 have kD:∀ {y n:Nat} {el:List (List V)},y<4→aA S4 y 0=.ok (n,el)→aA D y 0=.ok (n,el):=fun hy hr=>by rw [hD];exact aG (n:=S4.next+1) (by omega) (aG (n:=S4.next) (by omega) hr)
 have rD:aA D S4.next 0=.ok (3,[[.int .i64 r.why,.int .i64 r.number,.int .i64 r.gross]]):=by rw [hD];exact aC _ _ _ _ _ _
 have h1:=kD (by decide) f1
 have h2:=kD (by decide) f2
 have h3:=kD (by decide) f3
 have h0:=stD.row
 simp only [State.cells] at h0
 have p1:=stD.own.one
 have p2:=stD.own.cells
 have y2:(S4.next=2)=False:=by simp;omega
 have y3:(S4.next=3)=False:=by simp;omega
 have y0:(S4.next=0)=False:=by simp;omega
 simp only [kk,←hD,h0,h1,rD,bOh s'.sess c.session c.seq r]
 have hend:∀ (E:St) (s9:State),E.next=D.next→Own E0 E 12 v4 (s9.posted.map Posted.enc)→aA E 0 0=.ok (6,[[.imm (s9.table.map Rate.enc),.imm (s9.ser.map Ser.enc),v4,.imm (s9.book.map Bal.enc),.imm (s9.sess.map Sess.enc),.int .i64 s9.next]])→aA E 2 0=.ok (6,[[.nils,.nils,.nils,.nils,.nils,.int .i64 0]])→aA E 3 0=.ok (3,[[.int .i64 0,.int .i64 0,.int .i64 0]])→aA E S4.next 0=.ok (3,[[.int .i64 r.why,.int .i64 r.number,.int .i64 r.gross]])→hJ (s',r) c=(s9,r)→
   aHf C (fun v0 S0=>gK S0 v0=Except.ok (srV (hJ (s',r) c))) (V.ptr 0 0 0 0) (V.ptr (1+1) 0 0 0) (V.ptr (1+1+1) 0 0 0) (V.ptr S4.next 0 0 0) E:=by
  intro E s9 hn o i0 i2 i3 ir hk
  have:=hout ⟨E.next+4,(E.heap.put 2 (.row 0 6 [s9.cells v4])).put 3 (.row 0 3 [[.int .i64 r.why,.int .i64 r.number,.int .i64 r.gross]])⟩ v4 (s9,r) ((hput E v4 s9 _ _ o fun z hz=>(v4b z hz).1).bump 4)
  simp only [aHf,kk,gm,i0,i2,i3,ir,iI,y2,y3,p1,p2,hk]
  exact this
 by_cases c9:(jZ s'.sess c.session c.seq r).2=0
 ·have hk:hJ (s',r) c=({ s' with sess:=(jZ s'.sess c.session c.seq r).1 },r):=by simp only [hJ,c9,if_true]
  simp only [c9,kk,if_true]
  have stE:=stD.set (s':={ s' with sess:=(jZ s'.sess c.session c.seq r).1 }) rfl
  exact hend ⟨D.next,D.heap.put 0 (.row 0 6 [({ s' with sess:=(jZ s'.sess c.session c.seq r).1 }:State).cells v4])⟩ _ rfl stE.own stE.row (aG (n:=D.next) (by decide) h2) (aG (n:=D.next) (by decide) h3) (aG (n:=D.next) (by omega) rD) hk
 ·have hk:hJ (s',r) c=(s',r):=by simp only [hJ,c9,if_false]
  simp only [c9,kk,if_false]
  exact hend D s' rfl stD.own h0 h2 h3 rD hk
end Go.Proofs.YtoaibmbldmckaaaGreat
end
section
namespace Go.AM
theorem bDr (z:List V) (parts:List (Nat×V)) (fr:Option Nat) (S:St):type_of% (bsl 17 z parts fr S (by decide)):=bsl 17 z parts fr S (by decide)
theorem bJt (z:List V) (parts:List (Nat×V)) (fr:Option Nat) (S:St):type_of% (bsl 3 z parts fr S (by decide)):=bsl 3 z parts fr S (by decide)
end Go.AM
namespace Go.Proofs.YtoaibmbldmckaaaGreat
open Go.AM Tryz
set_option linter.unusedVariables false
set_option linter.unusedSimpArgs false
set_option maxRecDepth 100000
def Call.enc (c:Call):List V:=[.int .i64 c.session,.int .i64 c.seq,.int .i64 c.cmd.kind,.str c.cmd.series,.int .i64 c.cmd.limit,.str c.cmd.row.cat,.int .i64 c.cmd.row.day.y,.int .i64 c.cmd.row.day.m,.int .i64 c.cmd.row.day.d,.int .i64 c.cmd.row.bp,.int .i64 c.cmd.day.y,.int .i64 c.cmd.day.m,.int .i64 c.cmd.day.d,.imm (c.cmd.lines.map Line.enc),.str c.cmd.of.ser,.int .i64 c.cmd.of.num,.int .i64 c.cmd.session]
theorem bDs (x:Call):x.enc.length=17∧aH x.enc=true:=⟨rfl,rfl⟩
theorem bJu (x:Line):x.enc.length=4∧aH x.enc=true:=⟨rfl,rfl⟩
theorem bPi (x:Rep):x.enc.length=3∧aH x.enc=true:=⟨rfl,rfl⟩
theorem aV7 {l:List Call} {i:Nat} {a:Call} (hi:l[i]?=some a) (k:IntKind):gS 17 (.imm (l.map Call.enc)) (.int k (i:Int))=.ok (.iptr a.enc 0):=ixI (enc:=Call.enc) hi rfl k
theorem bJv (l:List Line) (hi:15≤l.length):iF prog 55 (.imm (l.map Line.enc)) none (some (.int .i64 15))=.ok (.imm ((l.take 15).map Line.enc)):=by
 have hb:fR (l.map Line.enc).length none (some (.int .i64 15))=.ok (0,15):=by
  have:(decide ((0:Int)≤15)&&decide ((15:Int)≤((l.map Line.enc).length:Int)))=true:=by simp;omega
  simp only [fR,this,cond_true]
  rfl
 rw [bHr _ (cY (n:=4) (fun c hc=>by obtain ⟨x,_,rfl⟩:=List.mem_map.1 hc;exact bJu x)).1,hb]
 simp only [List.drop_zero,Nat.sub_zero,List.map_take]
def aOs {α β:Type} (f:α→β) (s:List β) (a:α):List β⊕List β:=.inr (s++[f a])
theorem aFr {α β:Type} (f:α→β):∀ (l:List α) (s:List β),aD (aOs f) id l s=s++l.map f
 | [],s=>by simp [aD]
 | a::l,s=>by simp only [aD,aOs];rw [aFr f l];simp
theorem g30 (l:List Call) (n:Nat) (hn:n≤1000) (S:St) (K:KW):C 30 [.imm (l.map Call.enc),.int .i64 (n:Int)] S K=K (.imm ((sV l n).map Call.enc)) S:=by
 refine (v30 rfl ?_).eq S K
 simp only [m30]
 have htl:(l.take n).length≤n:=by rw [List.length_take];omega
 have htl2:(l.take n).length≤l.length:=by rw [List.length_take];omega
 refine aF (l.take n) (step:=aOs qY) (fin:=id) (fun i s vs S=>∃ v,vs=[v,.int .i64 (i:Int)]∧Own E0 S 17 v (s.map Call.enc)∧WF S∧s.length=i) (fun r=>r=sV l n) ?_ ?_ (s:=[]) ⟨_,rfl,Own.nil _ _ _,nK,rfl⟩ (by rw [aFr];rfl)
 ·rintro i c s vs S hi ⟨v,rfl,own,w,hsl⟩ aE H
  have hil:=(List.getElem?_eq_some_iff.1 hi).1
  have hi':l[i]?=some c:=by rw [List.getElem?_take,if_pos (by omega)] at hi;exact hi
  have hlt:((i:Int)<(n:Int))=True:=by simp;omega
  simp only [aOs] at H
  obtain ⟨S1,hS1⟩:∃ S1:St,S1=⟨S.next+1,(S.heap.put S.next (.row 0 17 [[.int .i64 0,.int .i64 0,.int .i64 0,.str [],.int .i64 0,.str [],.int .i64 0,.int .i64 0,.int .i64 0,.int .i64 0,.int .i64 0,.int .i64 0,.int .i64 0,.nils,.str [],.int .i64 0,.int .i64 0]])).put S.next (.row 0 17 [c.enc])⟩:=⟨_,rfl⟩
  have x1:Ext S S1:=by rw [hS1];exact Ext.var w 17 _ _
  have n1:S1.next=S.next+1:=by rw [hS1]
  have r1:aA S1 S.next 0=.ok (17,[c.enc]):=by rw [hS1];exact aC _ _ _ _ _ _
  simp only [Call.enc] at r1 hS1
  have hj:∀ X:St,Own E0 X 17 v (s.map Call.enc)→WF X→aA X S.next 0=.ok (17,[(qY c).enc])→aHd C (fun v0 S0=>gK S0 v0=Except.ok (V.imm (List.map Call.enc (sV l n)))) aE (.imm (l.map Call.enc)) (.int .i64 (n:Int)) v (.int .i64 (i:Int)) (.ptr S.next 0 0 0) X:=by
   intro X o wX hr
   obtain ⟨v',S',q1,q2,q3,_⟩:=aOo (b:=176) o wX (cs:=[(qY c).enc]) (fun d hd=>by rcases List.mem_singleton.1 hd with rfl;exact bDs _) (by simp) (by simp;omega) (by simp [dR];omega)
   simp only [Call.enc] at hr q1
   simp only [aHd,kk,hr,bDr,iE (show i<1000000000 by omega)]
   simp only [kk] at q1
   simp only [q1,kk]
   exact H _ _ ⟨v',rfl,by rw [List.map_append];exact q2,q3,by simp;omega⟩
  have own1:=own.ext x1
  have w1:=x1.wf w
  simp only [aHe,kk,bL hi',hlt,if_true,aV7 hi',Call.enc,←hS1,r1]
  by_cases h15:15<c.cmd.lines.length
  ·have z:∀ (m:Nat) (b:Blk),Own E0 ⟨m,S1.heap.put S.next b⟩ 17 v (s.map Call.enc)→True:=fun _ _ _=>trivial
   simp only [show (15:Int)<(c.cmd.lines.length:Int) by omega,kk,if_true,bJv c.cmd.lines (by omega),r1]
   refine hj ⟨S1.next,S1.heap.put S.next (.row 0 17 [(qY c).enc])⟩ (own1.same (Nat.le_refl _) fun y hy=>Tr.get_put_neB _ _ _ _ trivial fun e=>?_) (hM (n:=S1.next) w1 (by omega) (Nat.le_refl _)) (aC _ _ _ _ _ _)
   have:=(fG own hy).2
   omega
  ·have hcc:(qY c).enc=c.enc:=by
    have:c.cmd.lines.take 15=c.cmd.lines:=List.take_of_length_le (by omega)
    simp only [qY,Call.enc,this]
   simp only [show ¬ (15:Int)<(c.cmd.lines.length:Int) by omega,kk,if_false]
   exact hj S1 own1 w1 (by rw [hcc];exact r1)
 ·rintro s vs S ⟨v,rfl,own,w,hsl⟩ aE H
  have H:s=sV l n:=H
  have ho:=own.out fun _=>rfl
  rw [H] at ho
  by_cases c1:l.length≤n
  ·have he:(l.take n).length=l.length:=by rw [List.length_take];omega
   simp only [aHe,kk,he,Int.lt_irrefl,if_false,oo,ho]
  ·have he:(l.take n).length=n:=by rw [List.length_take];omega
   have hlt:(n:Int)<(l.length:Int):=by omega
   simp only [aHe,kk,he,hlt,if_true,Int.lt_irrefl,if_false,oo,ho]
end Go.Proofs.YtoaibmbldmckaaaGreat
end
section
namespace Go.Proofs.YtoaibmbldmckaaaGreat
open Go.AM Tryz
theorem a33 {S:St} {s:State} {pv:V} (h:pv=.imm (s.posted.map Posted.enc)∨Own E0 S 12 pv (s.posted.map Posted.enc)) (c:Call) (b:Bnd s) (hl:c.cmd.lines.length<1000000):∃ h':Tr Blk,(∀ y,AM.blkOf pv≠some y→h'.get y=S.heap.get y)∧∀ K,C 33 [.agg [.imm (s.table.map Rate.enc),.imm (s.ser.map Ser.enc),pv,.imm (s.book.map Bal.enc),.imm (s.sess.map Sess.enc),.int .i64 s.next],
  .agg [.int .i64 c.session,.int .i64 c.seq,.int .i64 c.cmd.kind,.str c.cmd.series,.int .i64 c.cmd.limit,.str c.cmd.row.cat,.int .i64 c.cmd.row.day.y,.int .i64 c.cmd.row.day.m,.int .i64 c.cmd.row.day.d,.int .i64 c.cmd.row.bp,.int .i64 c.cmd.day.y,.int .i64 c.cmd.day.m,.int .i64 c.cmd.day.d,.imm (c.cmd.lines.map Line.enc),.str c.cmd.of.ser,.int .i64 c.cmd.of.num,.int .i64 c.cmd.session]] S K=K (srV (eU s c)) ⟨S.next,h'⟩:=by
 rcases h with rfl | h
 ·exact ⟨S.heap,fun _ _=>rfl,fun K=>g33 s c b hl S K⟩
 ·obtain ⟨h1,h2⟩:=h.in3 (fun _=>rfl) (x:=.imm (s.table.map Rate.enc)) (y:=.imm (s.ser.map Ser.enc)) (bs:=[.imm (s.book.map Bal.enc),.imm (s.sess.map Sess.enc),.int .i64 s.next]) rfl rfl rfl
  have hf:=h.out fun _=>rfl
  obtain ⟨h',hk,hC⟩:=(Fn.back fun S K=>g33 s c b hl S K).cutE (S:=S) (args:=[.agg [.imm (s.table.map Rate.enc),.imm (s.ser.map Ser.enc),pv,.imm (s.book.map Bal.enc),.imm (s.sess.map Sess.enc),.int .i64 s.next],.agg c.enc]) bN9 rfl (by simp only [frzVs,cM,hf,Call.enc]) (by simp only [ptrsVs,uM,h.ptrs,Call.enc];rfl)
  refine ⟨h',fun y hy=>hk y fun hm=>?_,hC⟩
  simp only [slsVs,fT,Call.enc,List.nil_append,List.append_nil] at hm
  exact hy (h.blks (cR (fun _=>rfl) _) 2 hm)
theorem g35 (s:State) (l:List Call) (sm:Sml s) (hll:l.length<100000) (hl:∀ c∈l,c.cmd.lines.length<1000000) (S:St) (K:KW):C 35 [.agg [.imm (s.table.map Rate.enc),.imm (s.ser.map Ser.enc),.imm (s.posted.map Posted.enc),.imm (s.book.map Bal.enc),.imm (s.sess.map Sess.enc),.int .i64 s.next],.imm (l.map Call.enc)] S K=
  K (.tup [.agg [.imm ((playM s l).1.table.map Rate.enc),.imm ((playM s l).1.ser.map Ser.enc),.imm ((playM s l).1.posted.map Posted.enc),.imm ((playM s l).1.book.map Bal.enc),.imm ((playM s l).1.sess.map Sess.enc),.int .i64 (playM s l).1.next],.imm ((playM s l).2.map Rep.enc)]) S:=by
 refine (v35 rfl ?_).eq S K
 obtain ⟨A,hA⟩:∃ A:St,A=⟨1+1,(Tr.nil.put 0 (.row 0 6 [s.enc])).put 1 (.row 0 6 [zst])⟩:=⟨_,rfl⟩
 have wA:WF A:=by rw [hA];exact hM (n:=1) (hM nK (by decide) (by decide)) (by decide) (by decide)
 have nA:A.next=2:=by rw [hA]
 have r0:aA A 0 0=.ok (6,[s.enc]):=by rw [hA];rfl
 have r1:aA A 1 0=.ok (6,[zst]):=by rw [hA];rfl
 simp only [State.enc] at r0 hA
 simp only [zst] at hA
 delta Tryz.f35;simp only [↓cw,↓reduceIte,Nat.reduceLT,kk,←hA,r0]
 refine bJs wA s sm.bnd fun v S6 x6 own6=>?_
 have n6:2≤S6.next:=by have:=x6.next;omega
 have w6:=x6.wf wA
 have bv:∀ y,AM.blkOf v=some y→2≤y∧y<S6.next:=fun y hy=>by have:=fG own6 hy;omega
 have a0:=x6.row r0
 have a1:=x6.row r1
 have own6:=own6.weaken (A:=E0) (Nat.zero_le _)
 have o1:=own6.one
 have o2:=own6.cells
 simp only [↓cw,↓reduceIte,Nat.reduceLT,kk,a0,o1,o2]
 refine aF l (step:=aOj) (fin:=id) (fun i st vs S'=>∃ u pv,vs=[u,.int .i64 (i:Int)]∧WF S'∧2≤S'.next∧Own E0 S' 3 u (st.2.map Rep.enc)∧st.2.length=i∧Sml st.1∧aA S' 0 0=.ok (6,[st.1.cells pv])∧aA S' 1 0=.ok (6,[zst])∧(pv=.imm (st.1.posted.map Posted.enc)∨Own E0 S' 12 pv (st.1.posted.map Posted.enc))∧pv.one=true∧pv.cells=[pv]∧(∀ y,AM.blkOf pv=some y→2≤y∧AM.blkOf u≠some y)∧(∀ y,AM.blkOf u=some y→2≤y))
  (fun r=>r=playM s l) ?_ ?_ (s:=(s,[])) ⟨.nils,v,rfl,hM (n:=S6.next) w6 (by omega) (Nat.le_refl _),n6,Own.nil _ _ _,rfl,sm,aC _ _ _ _ _ _,aG (n:=S6.next) (by decide) a1,.inr (own6.same (Nat.le_refl _) fun y hy=>Tr.get_put_neB _ _ _ _ trivial (by have:=bv y hy;omega)),o1,o2,fun y hy=>⟨(bv y hy).1,fun h=>by cases h⟩,fun y hy=>by cases hy⟩ (by rw [aFp];rfl)
 ·rintro i c ⟨s1,rs⟩ vs S1 hi ⟨u,pv,rfl,w,h2,ou,hrl,sm1,i0,i1,hpv,p1,p2,hb,hbu⟩ aE H
  have hil:=(List.getElem?_eq_some_iff.1 hi).1
  have hrl:rs.length=i:=hrl
  simp only [aOj,pE] at H
  obtain ⟨B,hB⟩:∃ B:St,B=⟨S1.next+1+1,((S1.heap.put S1.next (.row 0 17 [bIj])).put S1.next (.row 0 17 [c.enc])).put (S1.next+1) (.row 0 3 [[.int .i64 0,.int .i64 0,.int .i64 0]])⟩:=⟨_,rfl⟩
  have nB:B.next=S1.next+2:=by rw [hB]
  have wB:WF B:=by rw [hB];exact hM (n:=S1.next+1) (hM (n:=S1.next+1) (hM (n:=S1.next) w (by omega) (by omega)) (by omega) (Nat.le_refl _)) (by omega) (by omega)
  have kB:∀ y,y<S1.next→B.heap.get y=S1.heap.get y:=fun y hy=>by
   rw [hB]
   show (((S1.heap.put S1.next _).put S1.next _).put (S1.next+1) _).get y=_
   rw [Tr.get_put_neB _ _ _ _ trivial (by omega),Tr.get_put_neB _ _ _ _ trivial (by omega),Tr.get_put_neB _ _ _ _ trivial (by omega)]
  have j0:=aQ i0 (kB 0 (by omega))
  have j1:=aQ i1 (kB 1 (by omega))
  have jc:aA B S1.next 0=.ok (17,[c.enc]):=by rw [hB];exact aG (n:=S1.next+1) (by omega) (aC _ _ _ _ _ _)
  have jr:aA B (S1.next+1) 0=.ok (3,[[.int .i64 0,.int .i64 0,.int .i64 0]]):=by rw [hB];exact aC _ _ _ _ _ _
  have ouB:Own E0 B 3 u (rs.map Rep.enc):=ou.same (by omega) fun y hy=>kB y (fG ou hy).2
  have hpB:pv=.imm (s1.posted.map Posted.enc)∨Own E0 B 12 pv (s1.posted.map Posted.enc):=by
   rcases hpv with h | h
   ·exact .inl h
   ·exact .inr (h.same (by omega) fun y hy=>kB y (fG h hy).2)
  have hpl:∀ y,AM.blkOf pv=some y→y<S1.next:=fun y hy=>by
   rcases hpv with h | h
   ·rw [h] at hy;cases hy
   ·exact (fG h hy).2
  obtain ⟨h',hk,hC⟩:=a33 hpB c sm1.bnd (hl c (List.mem_of_getElem? hi))
  have wD:WF ⟨B.next,h'⟩:=fun y b hy=>by
   by_cases e:AM.blkOf pv=some y
   ·have:=hpl y e;show y<B.next;omega
   ·exact wB y b (by rw [←hk y e];exact hy)
  have d0:aA ⟨B.next,h'⟩ 0 0=.ok (6,[s1.cells pv]):=aQ j0 (hk 0 fun e=>by have:=hb _ e;omega)
  have d1:aA ⟨B.next,h'⟩ 1 0=.ok (6,[zst]):=aQ j1 (hk 1 fun e=>by have:=hb _ e;omega)
  have dr:aA ⟨B.next,h'⟩ (S1.next+1) 0=.ok (3,[[.int .i64 0,.int .i64 0,.int .i64 0]]):=aQ jr (hk _ fun e=>by have:=hpl _ e;omega)
  have oD:Own E0 ⟨B.next,h'⟩ 3 u (rs.map Rep.enc):=ouB.same (Nat.le_refl _) fun y hy=>hk y fun e=>(hb y e).2 hy
  simp only [bIj,Call.enc] at hB
  simp only [Call.enc] at jc
  simp only [State.cells] at j0 d0
  simp only [↓cw,↓reduceIte,Nat.reduceLT,kk,bL hi,aV7 hi,Call.enc,←hB,j0,jc,p1,p2,hC,srV,d0,dr,iI,bJt,iE (show i<1000000000 by omega),show (S1.next+1=0)=False by simp]
  obtain ⟨s2,hs2⟩:∃ s2,s2=(eU s1 c).1:=⟨_,rfl⟩
  obtain ⟨r,hr⟩:∃ r,r=(eU s1 c).2:=⟨_,rfl⟩
  have sm2:Sml s2:=by rw [hs2];exact aM6 sm1 c
  simp only [←hs2,←hr] at H ⊢
  obtain ⟨E,hE⟩:∃ E:St,E=⟨B.next,(h'.put 0 (.row 0 6 [s2.enc])).put (S1.next+1) (.row 0 3 [r.enc])⟩:=⟨_,rfl⟩
  have wE:WF E:=by rw [hE];exact hM (n:=B.next) (hM (n:=B.next) wD (by omega) (Nat.le_refl _)) (by omega) (Nat.le_refl _)
  have nE:E.next=B.next:=by rw [hE]
  have hul:∀ y,AM.blkOf u=some y→y<S1.next:=fun y hy=>(fG ou hy).2
  have oE:Own E0 E 3 u (rs.map Rep.enc):=by
   rw [hE]
   exact oD.same (Nat.le_refl _) fun y hy=>by
    have h1:=hul y hy
    have h2:=hbu y hy
    show ((h'.put 0 _).put (S1.next+1) _).get y=_
    rw [Tr.get_put_neB _ _ _ _ trivial (by omega),Tr.get_put_neB _ _ _ _ trivial (by omega)]
  have k0:aA E 0 0=.ok (6,[s2.enc]):=by rw [hE];exact aG (n:=B.next) (by omega) (aC _ _ _ _ _ _)
  have k1:aA E 1 0=.ok (6,[zst]):=by rw [hE];exact aG (n:=B.next) (by omega) (aG (n:=B.next) (by decide) d1)
  obtain ⟨u',F,q1,q2,q3,q4⟩:=aOo (b:=24) oE wE (cs:=[r.enc]) (fun d hd=>by rcases List.mem_singleton.1 hd with rfl;exact bPi _) (by simp) (by simp;omega) (by simp [dR];omega)
  have hu':∀ y,AM.blkOf u'=some y→2≤y:=fun y hy=>by
   have hnn:∀ z,z<2→F.heap.get z=E.heap.get z:=fun z hz=>q4 z (by omega) fun a ver m hv e=>by have:=hbu a (by rw [hv];rfl);omega
   rcases q2.is with ⟨rfl,_⟩ | ⟨a',ver',tl,rfl,_,hlt,hg⟩
   ·cases hy
   ·cases hy
    rcases Nat.lt_or_ge y 2 with h | h
    ·rw [hnn y h] at hg
     have:y=0∨y=1:=by omega
     rcases this with rfl | rfl
     ·rw [yS k0] at hg;cases hg
     ·rw [yS k1] at hg;cases hg
    ·exact h
  have l0:aA F 0 0=.ok (6,[s2.enc]):=aQ k0 (q4 0 (by omega) fun a ver m hv e=>by have:=hbu a (by rw [hv];rfl);omega)
  have l1:aA F 1 0=.ok (6,[zst]):=aQ k1 (q4 1 (by omega) fun a ver m hv e=>by have:=hbu a (by rw [hv];rfl);omega)
  have hFn:2≤F.next:=by have:=q3 0 _ (yS l0);have:=q3 1 _ (yS l1);omega
  subst hE
  simp only [↓cw,↓reduceIte,Nat.reduceLT,State.enc,Rep.enc,kk] at q1
  simp only [↓cw,↓reduceIte,Nat.reduceLT,q1,kk]
  exact H _ _ ⟨u',.imm (s2.posted.map Posted.enc),rfl,q3,hFn,by rw [List.map_append];exact q2,by simp;omega,sm2,l0,l1,.inl rfl,rfl,rfl,(fun y hy=>(by cases hy)),hu'⟩
 ·rintro ⟨s1,rs⟩ vs S1 ⟨u,pv,rfl,w,h2,ou,hrl,sm1,i0,i1,hpv,p1,p2,hb,hbu⟩ aE H
  have H':playM s l=(s1,rs):=H.symm
  simp only [State.cells] at i0
  simp only [zst] at i1
  simp only [↓cw,↓reduceIte,Nat.reduceLT,kk,Int.lt_irrefl,if_false,i0,i1,iI,p1,p2,H']
  have hu1:cM kO (lY (iZ ⟨S1.next,S1.heap.put 1 (.row 0 6 [s1.cells pv])⟩ 3) ⟨S1.next,S1.heap.put 1 (.row 0 6 [s1.cells pv])⟩) u=.ok (.imm (rs.map Rep.enc)):=(ou.same (S':=⟨S1.next,S1.heap.put 1 (.row 0 6 [s1.cells pv])⟩) (Nat.le_refl _) fun y hy=>Tr.get_put_neB _ _ _ _ trivial (by have:=hbu y hy;omega)).out fun _=>rfl
  have hu2:cM kO (lY (iZ ⟨S1.next,S1.heap.put 1 (.row 0 6 [s1.cells pv])⟩ 3) ⟨S1.next,S1.heap.put 1 (.row 0 6 [s1.cells pv])⟩) pv=.ok (.imm (s1.posted.map Posted.enc)):=by
   rcases hpv with rfl | h
   ·rfl
   ·exact (h.same (S':=⟨S1.next,S1.heap.put 1 (.row 0 6 [s1.cells pv])⟩) (Nat.le_refl _) fun y hy=>Tr.get_put_neB _ _ _ _ trivial (by have:=hb y hy;omega)).out fun _=>rfl
  simp only [State.cells] at hu1 hu2
  simp only [oo,hu1,hu2]
end Go.Proofs.YtoaibmbldmckaaaGreat
end
section
namespace Go.AM
open Go.RowKit Go.ChangeShapes
section
def Gh.all (W:World):Gh:={ Gh.none with pr:=fun b=>W.heap[b]? }
theorem aY7 (W:World):eW (fun i=>W.heap[i]?) (Gh.all W) St.empty W.heap:=
 ⟨fun _ _=>⟨rfl,rfl⟩,fun _ _ h=>(by cases h),fun a b h=>(by cases h),fun a a' b b' i h=>(by cases h),fun i o h=>h,fun i o h=>h,fun a b i h=>(by cases h),
  fun a i h=>(by rcases h with ⟨L,h,_⟩ | h<;>cases h),fun a b h=>(by cases h)⟩
theorem aJw {P:Program} {pl:jB} (hp:PlansOK P pl) {k:Nat} {f:FuncId} {args:List V} {S':St} (h:eV P pl k f args St.empty=.ok (.bool true,S')) (W:World) {cs:List Value} (hc:VRs (Gh.all W) args cs):
  Calls P f cs.toArray W fun e W'=>e=.returned (.bool true)∧Below W.heap.size W W':=by
 refine ((sJ hp k).calls h (aY7 W) hc).mono ?_
 rintro e W' ⟨G',w,rfl,q1,q2⟩
 cases q2
 refine ⟨rfl,q1.same.os,q1.same.tape,q1.same.output,q1.same.size,fun i hi=>?_⟩
 have:=Array.getElem?_eq_getElem hi
 rw [this]
 exact q1.rel.fr i _ this
def aN (P:Program):Nat→TypeId→List V→Prop
 | 0,_,_=>False
 | n+1,t,xs=>match P.underlying t with
  | some .bool=>∃ b,xs=[.bool b]
  | some (.int k)=>∃ i,xs=[.int k i]∧(Lit.int k i).wf=true
  | some .string=>∃ s,xs=[.str s]∧s.length≤maxLen
  | some (.slice e)=>∃ es,xs=[.imm es]∧es.length≤maxLen∧∀ c,c∈es→c.length=P.cellsOf e∧aN P n e c
  | some (.struct fs)=>xs.length=P.cellsOf t∧∀ f,f∈fs.toList→aN P n f.type ((xs.drop f.offset).take (P.cellsOf f.type))
  | _=>False
def aOt (P:Program):List Field→Nat→Nat→Bool
 | [],o,e=>Nat.beq o e
 | f::l,o,e=>Nat.beq f.offset o&&aOt P l (o+P.cellsOf f.type) e
def wC (P:Program):Nat→TypeId→Bool
 | 0,_=>false
 | d+1,t=>match P.underlying t with
  | some .bool=>true
  | some (.int _)=>true
  | some .string=>true
  | some (.slice e)=>Nat.blt 0 (P.cellsOf e)&&wC P d e
  | some (.struct fs)=>aOt P fs.toList 0 (P.cellsOf t)&&fs.toList.all fun f=>wC P d f.type
  | _=>false
theorem aOu {α:Type} {Q:Nat→α→Prop}:∀ n,(∀ i,i<n→∃ a,Q i a)→∃ l:List α,l.length=n∧∀ i a,l[i]?=some a→Q i a
 | 0,_=>⟨[],rfl,fun i a h=>by simp at h⟩
 | n+1,h=>by
  obtain ⟨l,h1,h2⟩:=aOu n fun i hi=>h i (by omega)
  obtain ⟨a,ha⟩:=h n (by omega)
  refine ⟨l++[a],by simp [h1],fun i x hx=>?_⟩
  by_cases c:i<n
  ·rw [List.getElem?_append_left (by omega)] at hx;exact h2 i x hx
  ·have hi:i<(l++[a]).length:=(List.getElem?_eq_some_iff.1 hx).1
   simp only [List.length_append,List.length_cons,List.length_nil] at hi
   have:i=n:=by omega
   subst this
   rw [List.getElem?_append_right (by omega),h1,Nat.sub_self] at hx
   cases hx;exact ha
theorem VRss.of {G:Gh}:∀ {l:List (List V×List Value)},(∀ x,x∈l→VRs G x.1 x.2)→VRss G (l.map (·.1)) (l.map (·.2))
 | [],_=>.nil
 | x::l,h=>.cons _ _ _ _ (h x (List.mem_cons_self ..)) (VRss.of fun y hy=>h y (List.mem_cons_of_mem _ hy))
section
variable {H:Type} {enc:TypeId×Value→H} {P:Program} {W:World} {sp:Nat→Bool} {held:Bool}
theorem bCj {n:Nat} {cs:List Value} (ih:∀ (t:TypeId) (cs:List Value) (x:DataW H×List MemPlace) (d:Nat),wC P d t=true→DataW.trod enc P W 0 sp held n t cs=some x→∃ xs,VRs (Gh.all W) xs cs∧aN P n t xs) {d:Nat}:
  ∀ (l:List Field) (o e:Nat),aOt P l o e=true→e≤cs.length→(∀ f,f∈l→wC P d f.type=true∧∃ x,DataW.trod enc P W 0 sp held n f.type ((cs.drop f.offset).take (P.cellsOf f.type))=some x)→
   o≤e∧∃ xs,VRs (Gh.all W) xs ((cs.drop o).take (e - o))∧∀ f,f∈l→o≤f.offset∧aN P n f.type ((xs.drop (f.offset - o)).take (P.cellsOf f.type))
 | [],o,e,h,he,_=>by
  have:o=e:=Nat.eq_of_beq_eq_true h
  subst this
  exact ⟨Nat.le_refl _,[],by rw [Nat.sub_self];exact .nil,fun _ h=>by cases h⟩
 | f::l,o,e,h,he,hf=>by
  simp only [aOt,Bool.and_eq_true] at h
  have h0:f.offset=o:=Nat.eq_of_beq_eq_true h.1
  obtain ⟨hle,xs,hv,hs⟩:=bCj ih l (o+P.cellsOf f.type) e h.2 he (fun g hg=>hf g (List.mem_cons_of_mem _ hg))
  obtain ⟨hpl,x,hx⟩:=hf f (List.mem_cons_self ..)
  obtain ⟨ys,hy,hsy⟩:=ih _ _ _ d hpl hx
  rw [h0] at hy
  have hyl:ys.length=P.cellsOf f.type:=by rw [hy.length,List.length_take,List.length_drop];omega
  refine ⟨by omega,ys++xs,?_,fun g hg=>?_⟩
  ·have:(cs.drop o).take (e - o)=(cs.drop o).take (P.cellsOf f.type)++(cs.drop (o+P.cellsOf f.type)).take (e - (o+P.cellsOf f.type)):=by
    rw [←List.drop_drop,←List.take_add]
    congr 1
    omega
   rw [this]
   exact hy.append hv
  ·rcases List.mem_cons.1 hg with rfl | hg
   ·refine ⟨by omega,?_⟩
    rw [h0,Nat.sub_self,List.drop_zero,List.take_append_of_le_length (by omega),List.take_of_length_le (by omega)]
    exact hsy
   ·obtain ⟨h1,h2⟩:=hs g hg
    refine ⟨by omega,?_⟩
    rw [List.drop_append,List.drop_eq_nil_of_le (by omega),List.nil_append,hyl]
    have:g.offset - o - P.cellsOf f.type=g.offset - (o+P.cellsOf f.type):=by omega
    rw [this]
    exact h2
theorem zU {a:Addr} {n:Nat} {r:List Value} (h:W.cells? 0 a n=some r):r.length=n∧∀ k v,r[k]?=some v→W.cell? (a.add k)=some v:=by
 unfold World.cells? at h
 rw [if_pos (Nat.zero_le _)] at h
 have hl:=mapM_some_length h
 rw [List.length_range] at hl
 refine ⟨hl,fun k v hk=>?_⟩
 have hkn:k<n:=by have:=(List.getElem?_eq_some_iff.1 hk).1;omega
 have:=mapM_some_get h k k (by rw [List.getElem?_range hkn])
 rw [this,hk]
theorem aOv {a:Addr} {v:Value} (h:W.cell? a=some v):∃ c ty fr,W.heap[a.block]?=some (.cells c ty fr)∧a.spot=none∧c[a.off]?=some v:=by
 unfold World.cell? at h
 split at h
 ·rename_i c ty fr hc
  split at h
  ·cases h
  ·rename_i hs
   exact ⟨c,ty,fr,hc,by simpa using hs,h⟩
 ·cases h
theorem aFs (a:Addr) (n:Nat):(a.add n).block=a.block:=by
 unfold Addr.add
 split<;>rfl
theorem aOw (a:Addr) (n:Nat):(a.add n).off=a.off+n:=by
 unfold Addr.add
 split
 ·rename_i h;rw [h,Nat.add_zero]
 ·rfl
theorem aFt (a:Addr):a.add 0=a:=by unfold Addr.add;rw [if_pos rfl]
theorem aM7:∀ (n:Nat) (t:TypeId) (cs:List Value) (x:DataW H×List MemPlace) (d:Nat),wC P d t=true→DataW.trod enc P W 0 sp held n t cs=some x→∃ xs,VRs (Gh.all W) xs cs∧aN P n t xs
 | 0,t,cs,x,d,_,h=>by simp [DataW.trod] at h
 | n+1,t,cs,x,0,hp,h=>by cases hp
 | n+1,t,cs,x,d+1,hp,h=>by
  simp only [wC] at hp
  split at hp
  ·rename_i ht
   obtain ⟨b,rfl,_⟩:=DataW.trod_bool ht h
   exact ⟨[.bool b],.cons _ _ _ _ (.bool b) .nil,by simp only [aN,ht];exact ⟨b,rfl⟩⟩
  ·rename_i k ht
   obtain ⟨i,rfl,_,hw⟩:=DataW.trod_int ht h
   exact ⟨[.int k i],.cons _ _ _ _ (.int k i) .nil,by simp only [aN,ht];exact ⟨i,rfl,hw⟩⟩
  ·rename_i ht
   obtain ⟨s,rfl,_,hs⟩:=DataW.trod_string ht h
   refine ⟨[.str s.data.toList],.cons _ _ _ _ (.str s.data.toList) .nil,?_⟩
   simp only [aN,ht]
   exact ⟨_,rfl,hs⟩
  ·rename_i e ht
   simp only [Bool.and_eq_true,Nat.blt_eq] at hp
   rcases DataW.trod_slice ht h with ⟨rfl,_⟩ | ⟨a,len,cap,elems,rest,m,hm,rfl,_,_,hlc,hcap,hel,hget,_,_⟩
   ·exact ⟨[.imm []],.cons _ _ _ _ .imm0 .nil,by simp only [aN,ht];exact ⟨[],rfl,Nat.zero_le _,fun c hc=>by cases hc⟩⟩
   ·have hm:m=n:=by omega
    subst hm
    obtain ⟨l,hl,hq⟩:=aOu (Q:=fun i (y:List V×List Value)=>W.cells? 0 (a.add (i*P.cellsOf e)) (P.cellsOf e)=some y.2∧VRs (Gh.all W) y.1 y.2∧aN P m e y.1) len (fun i hi=>by
     have h1:=hget i hi
     rw [List.getElem?_eq_getElem (by omega:i<elems.length)] at h1
     rw [Option.bind_eq_some_iff] at h1
     obtain ⟨r,h2,h3⟩:=h1
     obtain ⟨c,h4,h5⟩:=aM7 m e r _ d hp.2 h3
     exact ⟨(c,r),h2,h4,h5⟩)
    have hlen:∀ y,y∈l→y.1.length=P.cellsOf e∧y.2.length=P.cellsOf e:=fun y hy=>by
     obtain ⟨i,hi⟩:=List.mem_iff_getElem?.1 hy
     obtain ⟨h1,h2,_⟩:=hq i y hi
     have:=(zU h1).1
     exact ⟨by rw [h2.length];exact this,this⟩
    refine ⟨[.imm (l.map (·.1))],.cons _ _ _ _ (.imm _ a len cap (P.cellsOf e) (by rw [List.length_map,hl]) hlc (l.map (·.2)) (VRss.of fun y hy=>?_) (fun c hc=>?_) ?_) .nil,?_⟩
    ·obtain ⟨i,hi⟩:=List.mem_iff_getElem?.1 hy
     exact (hq i y hi).2.1
    ·obtain ⟨y,hy,rfl⟩:=List.mem_map.1 hc
     exact (hlen y hy).1
    ·by_cases h0:len=0
     ·exact .inl h0
     ·right
      obtain ⟨y0,hy0⟩:∃ y0,l[0]?=some y0:=⟨l[0]'(by omega),List.getElem?_eq_getElem (by omega)⟩
      obtain ⟨h1,_,_⟩:=hq 0 y0 hy0
      rw [Nat.zero_mul,aFt] at h1
      obtain ⟨hyl,hcell⟩:=zU h1
      obtain ⟨v0,hv0⟩:∃ v0,y0.2[0]?=some v0:=⟨y0.2[0]'(by omega),List.getElem?_eq_getElem (by omega)⟩
      have hc0:=hcell 0 v0 hv0
      rw [aFt] at hc0
      obtain ⟨c,ty,fr,hh,hs,_⟩:=aOv hc0
      refine ⟨c,ty,fr,hh,hs,fun i r hr k v hk=>?_⟩
      rw [List.getElem?_map] at hr
      obtain ⟨y,hy,rfl⟩:∃ y,l[i]?=some y∧y.2=r:=by
       cases hy:l[i]? with
       | none=>rw [hy] at hr;cases hr
       | some y=>rw [hy] at hr;exact ⟨y,rfl,Option.some.inj hr⟩
      obtain ⟨h2,_,_⟩:=hq i y hy
      obtain ⟨c',ty',fr',hh',_,hv⟩:=aOv ((zU h2).2 k v hk)
      rw [aFs,aFs,hh] at hh'
      rw [aOw,aOw] at hv
      cases hh'
      exact hv
    ·simp only [aN,ht]
     refine ⟨_,rfl,by rw [List.length_map,hl];omega,fun c hc=>?_⟩
     obtain ⟨y,hy,rfl⟩:=List.mem_map.1 hc
     obtain ⟨i,hi⟩:=List.mem_iff_getElem?.1 hy
     exact ⟨(hlen y hy).1,(hq i y hi).2.2⟩
  ·rename_i fs ht
   simp only [Bool.and_eq_true,List.all_eq_true] at hp
   obtain ⟨xs,m,hm,_,hcl,hxl,hf⟩:=DataW.trod_struct ht h
   have hm:m=n:=by omega
   subst hm
   obtain ⟨_,ys,h1,h2⟩:=bCj (enc:=enc) (sp:=sp) (held:=held) (cs:=cs) (fun t cs x d=>aM7 m t cs x d) fs.toList 0 (P.cellsOf t) hp.1 (Nat.le_of_eq hcl.symm) (fun f hfm=>by
    refine ⟨hp.2 f hfm,?_⟩
    obtain ⟨i,hi⟩:=List.mem_iff_getElem?.1 hfm
    have hi':fs[i]?=some f:=by simpa using hi
    rw [hf i f hi']
    have:i<xs.length:=by
     rw [hxl]
     by_cases c:i<fs.size
     ·exact c
     ·rw [Array.getElem?_eq_none (by omega)] at hi';cases hi'
    exact ⟨_,List.getElem?_eq_getElem this⟩)
   rw [Nat.sub_zero,List.drop_zero,List.take_of_length_le (by omega)] at h1
   refine ⟨ys,h1,?_⟩
   simp only [aN,ht]
   refine ⟨by rw [h1.length,hcl],fun f hfm=>?_⟩
   have:=(h2 f hfm).2
   rwa [Nat.sub_zero] at this
  ·cases hp
end
end
end Go.AM
end
section
namespace Go.AM
open Go.ChangeShapes Go.WideShapes Go.ChangeAt Go.RowKit
theorem aEn {H:Type} {enc:TypeId×Value→H} {P:Program} {f:Func} {s:ChangeSpec} {apart fresh handsOn:Bool} {W W':World} {args:Array Value} {v:Value} {ds gs:List (DataW H)} {before pa pv:List MemPlace}
  (hW:DataW.Whole enc P f.params.toList s.vars apart W args.toList ds gs before)
  (hres:∀ (b:Nat) (sp:Nat→Bool) (hd:Bool),DataW.TrodAll enc P W' b sp hd f.resultTypes.toList (v.resultList f.resultTypes.size) (s.fn H (ds++gs)).results [])
  (hargs:∀ sp:Nat→Bool,(∀ p∈before,sp p.block=true)→DataW.TrodAll enc P W' 0 sp true f.params.toList args.toList (s.fn H (ds++gs)).args pa)
  (hvars:∀ sp:Nat→Bool,(∀ p∈before,sp p.block=true)→DataW.TrodVars enc P W' sp s.vars (s.fn H (ds++gs)).vars pv)
  (hps:before=pa++pv) (hk:W.keptBut W' (·∈before)):
  s.post enc P f apart fresh handsOn false W args v W':=by
 have hold:∀ p∈before,(fun b=>decide (b<W.heap.size)) p.block=true:=fun p hp=>by simpa using hW.lt p hp
 refine ⟨ds,gs,before,[],pa,pv,hW,hres _ _ _,hargs _ hold,hvars _ hold,World.keptBut_mono (fun p hp=>⟨hp,?_⟩) hk,fun h=>by cases h⟩
 rw [hps,List.mem_append] at hp
 exact Or.inr hp
theorem aEo {W W':World} (h:Below W.heap.size W W') (S:MemPlace→Prop):W.keptBut W' S:=Below.frame h S
theorem aQr {H:Type} {enc:TypeId×Value→H} {P:Program} {W:World} {t:TypeId} (ht:P.underlying t=some .bool) (b:Nat) (sp:Nat→Bool) (hd:Bool):
  DataW.TrodAll enc P W b sp hd [t] ((Value.bool true).resultList 1) [.lit (.bool true)] []:=
 trodAll_mk1 ⟨1,by simp [DataW.trod,Value.cells,ht]⟩
end Go.AM
end
section
namespace Go.AM
open Go.RowKit Go.ChangeShapes
section
section
variable {H:Type} {enc:TypeId×Value→H} {P:Program} {W:World} {sp:Nat→Bool} {held:Bool}
theorem aEp {r:Reach} {b0:Nat} {t e:TypeId} {v:Value} (ht:P.underlying t=some (.slice e)) (hval:Value.okWide P W r b0 t v):v.cells.toList=[v]:=by
 cases v with
 | agg cs=>simp [Value.okWide,ht,Cell.okWide,Cell.ok] at hval
 | _=>rfl
theorem aD9 {r:Reach} {b0 d:Nat} {t e:TypeId} {v:Value} {dd:DataW H} {ps:List MemPlace} (ht:P.underlying t=some (.slice e)) (hpl:wC P d t=true) (hval:Value.okWide P W r b0 t v) (hd:DataW.Trod enc P W 0 sp held t v dd ps):
  ∃ x n,VR (Gh.all W) x v∧aN P n t [x]:=by
 obtain ⟨fuel,hf⟩:=hd
 obtain ⟨xs,h1,h2⟩:=aM7 fuel t _ _ d hpl hf
 rw [aEp ht hval] at h1
 cases h1 with
 | cons x _ vs _ hx t'=>
  cases t'
  exact ⟨x,fuel,hx,h2⟩
theorem aQs {t:TypeId} (hl:laidOutB P=true) (hr:P.readableRec t=true) (hrow:t<P.types.size) {W':World} {v:Value} {d:DataW H} {ps:List MemPlace} (h:DataW.Trod enc P W 0 (fun _=>true) true t v d ps) (hb:Below W.heap.size W W')
  (hlt:∀ x∈ps,x.block<W.heap.size) {sp':Nat→Bool} (hs:∀ x∈ps,sp' x.block=true):DataW.Trod enc P W' 0 sp' true t v d ps:=
 WideElems.Trod_stays hl hr hrow h (fun x hx=>hb.same (hlt x hx)) hs
end
end
end Go.AM
end
