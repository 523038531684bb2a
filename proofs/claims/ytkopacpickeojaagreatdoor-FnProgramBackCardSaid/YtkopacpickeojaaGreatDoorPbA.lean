/- A part of the proof of FnProgramBackCardSaid. -/
import Derived.Test.YtkopacpickeojaaGreatDoorPbModels
import Derived.Test.YtkopacpickeojaaGreatDoorWkN
import Derived.Test.YtkopacpickeojaaGreatDoorWkY
import Derived.Laws.RangeString
import Derived.Laws.RangeAny
import Derived.Test.YtkopacpickeojaaGreatDoorWkAd
namespace Go.Wk
open Go
namespace Prg
set_option maxRecDepth 10000
def oI (b:UInt8):Bool:=decide ((97:UInt8)≤b)&&decide (b≤(122:UInt8))
def nh (b:UInt8):Bool:=decide ((48:UInt8)≤b)&&decide (b≤(57:UInt8))
def rO:List UInt8:=[40,41,123,125,59,44,43,45,42,47,37,60,61,38,33,64]
def o5 (b:UInt8):Int:=if oI b then 1 else if nh b then 2 else if b∈rO then 3 else if b=32∨b=10 then 4 else 0
theorem xw (b:UInt8):nM b=some (oI b):=by
 unfold nM oI
 by_cases h:(97:UInt8)≤b<;>simp [h]
theorem xN (b:UInt8):nD b=some (nh b):=by
 unfold nD nh
 by_cases h:(48:UInt8)≤b<;>simp [h]
theorem bp3 (s:Str) (c:UInt8):∃ n:Int,rM s c=some n∧(0≤n↔c∈s.b):=by
 unfold rM
 rcases ad2 (xs:=s.b) (body:=(λ(uA:Int) (uC:Unit)=>((kn (s).b uA).bind λuB=>if decide (uB=c) then some (.inr uA) else some (.inl ()):Option ((Unit) ⊕ (Int))))) (λx=>decide (x=c)) (λi=>i) (λl x r he=>by
  rw [he,mA,obS]) with ⟨h1,h2⟩ | ⟨l,x,r,h1,h2,h3,h4⟩
 ·refine ⟨-1, ko h2 rfl, ⟨fun h => by omega, fun h => ?_⟩⟩
  have:=List.any_eq_false.1 h1 c h
  simp at this
 ·refine ⟨_, ko h4 rfl, ⟨fun _ => ?_, fun _ => by omega⟩⟩
  simp at h3;subst h3
  rw [h1];simp
theorem sD (b:UInt8):mO b=some (o5 b):=by
 obtain ⟨n,h1,h2⟩:=bp3 (mkS [40,41,123,125,59,44,43,45,42,47,37,60,61,38,33,64]) b
 have e1:(if decide ((97:UInt8)≤b) then some (decide (b≤(122:UInt8))) else some false:Option Bool)=some (oI b):=by unfold oI;by_cases h:(97:UInt8)≤b<;>simp [h]
 have e2:(if decide ((48:UInt8)≤b) then some (decide (b≤(57:UInt8))) else some false:Option Bool)=some (nh b):=by unfold nh;by_cases h:(48:UInt8)≤b<;>simp [h]
 have e3:(if decide (b=(32:UInt8)) then some true else some (decide (b=(10:UInt8))):Option Bool)=some (decide (b=32∨b=10)):=by by_cases h:b=32<;>simp [h]
 have h3:(0≤n)↔b∈rO:=h2
 unfold mO o5
 rw [e1,e2,e3,h1]
 simp only [obS]
 cases oI b with
 | true=>rfl
 | false =>
  cases nh b with
  | true=>rfl
  | false =>
   by_cases h:b∈rO
   ·simp [h,h3.2 h]
   ·have:¬ 0≤n:=λh'=>h (h3.1 h')
    simp only [Bool.false_eq_true,if_false,h,this,decide_false]
    by_cases h5:b=32∨b=10<;>simp [h5]
def sa (s:Str):Bool:=decide (s∈k7)
theorem aq1 (xs:List Str) (v:Str):la xs v=some (decide (v∈xs)):=by
 unfold la nQ
 rcases ad2 (xs:=xs) (body:=(λ(uA:Int) (uC:Unit)=>((kn xs uA).bind λuB=>if decide (v=uB) then some (.inr uA) else some (.inl ()):Option ((Unit) ⊕ (Int))))) (λx=>decide (v=x)) (λi=>i) (λl x r he=>by
  rw [he,mA,obS]) with ⟨h1,h2⟩ | ⟨l,x,r,h1,h2,h3,h4⟩
 ·rw [ko (b:=some (-1)) h2 rfl,obS]
  have:v ∉ xs:=λh=>by have:=List.any_eq_false.1 h1 v h;simp at this
  simp [this]
 ·rw [ko (b:=some (l.length:Int)) h4 rfl,obS]
  simp at h3;subst h3
  have:v∈xs:=by rw [h1];simp
  simp [this]
theorem ap6 (s:Str):qy s=some (sa s):=by
 unfold qy qm sa
 rw [obS]
 show (forN (λ(uA:Int) (uC:Unit)=>((kn k7 uA).bind λuB=>if decide (uB=s) then some (.inr true) else some (.inl ()):Option ((Unit) ⊕ (Bool)))) (((k7.length:Int):Int) - 0).toNat 0 ()).bind _=_
 rw [vj (qT (xs:=k7) (body:=(λ(uA:Int) (uC:Unit)=>((kn k7 uA).bind λuB=>if decide (uB=s) then some (.inr true) else some (.inl ()):Option ((Unit) ⊕ (Bool))))) (λx=>decide (x=s)) true (λl x r he=>by rw [he,mA,obS]))]
 cases h:k7.any (λx=>decide (x=s)) with
 | true =>
  obtain ⟨x,h1,h2⟩:=List.any_eq_true.1 h
  simp at h2;subst h2
  simp [h1]
 | false =>
  have:s ∉ k7:=λh'=>by have:=List.any_eq_false.1 h s h';simp at this
  simp [this]
def lu (s:Str):Bool:=decide (s.b≠[])&&s.b.all oI&&decide (s.b.length≤4)&&!sa s
theorem bv3 (s:Str) (c:Int):sZ s c=some (s.b.all (λb=>decide (o5 b=c))&&decide (s.b≠[])):=by
 unfold sZ
 rw [vj (qT (xs:=s.b) (body:=(λ(uA:Int) (uD:Unit)=>((kn (s).b uA).bind λuB=>(mO uB).bind λuC=>if decide (uC≠c) then some (.inr false) else some (.inl ()):Option ((Unit) ⊕ (Bool))))) (λb=>decide (o5 b≠c)) false (λl x r he=>by
  rw [he,mA,obS,sD,obS]))]
 have e:s.b.any (λb=>decide (o5 b≠c))=!s.b.all (λb=>decide (o5 b=c)):=by
  rw [List.not_all_eq_any_not];congr 1;funext b;simp
 rw [e]
 have h0:decide (0<(s.b.length:Int))=decide (s.b≠[]):=by
  cases s.b<;>simp
 cases s.b.all (λb=>decide (o5 b=c)) with
 | true =>
  show some (decide (0<(s.b.length:Int)))=_
  rw [h0,Bool.true_and]
 | false=>rfl
theorem by8 (b:UInt8):decide (o5 b=1)=oI b:=by
 cases h1:oI b<;>cases h2:nh b<;>by_cases h3:b∈rO<;>by_cases h4:b=32∨b=10<;>simp [o5,h1,h2,h3,h4]
theorem uo (s:Str):ob s=some (lu s):=by
 unfold ob
 rw [bv3,ap6]
 have e:s.b.all (λb=>decide (o5 b=1))=s.b.all oI:=by congr 1;funext b;exact by8 b
 have e2:decide ((s.b.length:Int)≤4)=decide (s.b.length≤4):=by rw [decide_eq_decide];omega
 rw [e,e2]
 unfold lu
 cases s.b.all oI<;>cases decide (s.b≠[])<;>cases decide (s.b.length≤4)<;>rfl
theorem zK {b:UInt8}:oI b=true↔97≤b.toNat∧b.toNat≤122:=by
 unfold oI
 rw [Bool.and_eq_true,decide_eq_true_iff,decide_eq_true_iff,UInt8.le_iff_toNat_le,UInt8.le_iff_toNat_le]
 rfl
theorem au4 (x:Int):nk x=some (decide (x<97∨122<x)):=by
 unfold nk
 by_cases h:x<97<;>simp [h]
theorem ax1 (s:ByteArray) (p:Nat→Bool) (hp:∀ x:Nat,p x=decide (x<97∨122<x)):∀ (f pos:Nat),s.size - pos≤f→pos≤s.size→(Lib.idxFuncFrom p true s f pos<0↔(s.data.toList.drop pos).all oI=true):=by
 have hsz:s.data.toList.length=s.size:=by rw [Array.length_toList];rfl
 intro f
 induction f with
 | zero =>
  intro pos h h2
  have:pos=s.size:=by omega
  subst this
  have:s.data.toList.drop s.size=[]:=List.drop_eq_nil_of_le (by omega)
  rw [this]
  simp [Lib.idxFuncFrom]
 | succ f ih =>
  intro pos h h2
  unfold Lib.idxFuncFrom
  by_cases hlt:pos<s.size
  ·rw [if_pos hlt]
   have hl:pos<s.data.toList.length:=by omega
   have hd:s.data.toList.drop pos=s[pos]'hlt::s.data.toList.drop (pos+1):=by
    rw [List.drop_eq_getElem_cons hl];rfl
   rw [hd,List.all_cons]
   by_cases ha:(s[pos]'hlt).toNat<128
   ·rw [decode_ascii s pos hlt ha,hp]
    cases hb:oI (s[pos]'hlt) with
    | true =>
     have:=zK.1 hb
     rw [if_neg (by simp;omega),ih (pos+1) (by omega) (by omega)]
     simp
    | false =>
     have:¬ (97≤(s[pos]'hlt).toNat∧(s[pos]'hlt).toNat≤122):=λh=>by rw [zK.2 h] at hb;cases hb
     rw [if_pos (by simp;omega)]
     simp
   ·obtain ⟨h3, _⟩ := decode_high s pos hlt (by omega)
    rw [hp,if_pos (by simp;omega)]
    have:oI (s[pos]'hlt)=false:=by
     cases hb:oI (s[pos]'hlt) with
     | true=>have:=zK.1 hb;omega
     | false=>rfl
    rw [this]
    simp
  ·have : pos = s.size := by omega
   subst this
   have:s.data.toList.drop s.size=[]:=List.drop_eq_nil_of_le (by omega)
   rw [this,if_neg hlt]
   simp
theorem vv (n lo hi:Int):pH n lo hi=some (inB n lo hi):=by
 unfold pH inB
 by_cases h:lo≤n<;>simp [h]
theorem zI (n lo hi:Int):pC n lo hi=some (inB n lo hi):=by
 unfold pC inB
 by_cases h:lo≤n<;>simp [h]
theorem xD (s:Str):oA s=some (lu s):=by
 have hi:∃ n:Int,qN s (λy0=>nk y0)=some n∧(n<0↔s.b.all oI=true):=by
  unfold qN wm
  rw [if_pos λx _=>by show (nk (x:Int)).isSome=true;rw [au4];rfl]
  refine ⟨_,rfl,?_⟩
  have:=ax1 ⟨s.b.toArray⟩ (λx=>(nk (x:Int)).getD false) (λx=>by show (nk (x:Int)).getD false=_;rw [au4];show decide _=decide _;rw [decide_eq_decide];omega) (⟨s.b.toArray⟩:ByteArray).size 0 (by omega) (by omega)
  simpa [Lib.idxFunc] using this
 obtain ⟨n,h1,h2⟩:=hi
 unfold oA
 rw [vv,h1,aq1,obS]
 simp only [obS]
 have h3:inB (s.b.length:Int) 1 4=(decide (s.b≠[])&&decide (s.b.length≤4)):=by
  have e1:decide ((1:Int)≤(s.b.length:Int))=decide (s.b≠[]):=by
   rw [decide_eq_decide]
   constructor
   ·intro h h';rw [h'] at h;simp at h
   ·intro h
    have:=List.length_pos_iff.2 h
    omega
  have e2:decide ((s.b.length:Int)≤4)=decide (s.b.length≤4):=by rw [decide_eq_decide];omega
  show (decide ((1:Int)≤(s.b.length:Int))&&decide ((s.b.length:Int)≤4))=_
  rw [e1,e2]
 have h4:decide (n<0)=s.b.all oI:=by
  cases hb:s.b.all oI with
  | true=>simp [h2.2 hb]
  | false =>
   have:¬ n<0:=λh=>by rw [h2.1 h] at hb;cases hb
   simp [this]
 rw [h3,h4]
 unfold lu sa
 cases s.b.all oI<;>cases decide (s.b≠[])<;>cases decide (s.b.length≤4)<;>rfl
end Prg
end Go.Wk
namespace Go.Wk
open Go
namespace Prg
set_option maxRecDepth 10000
def vD (acc:Nat) (l:List UInt8):Nat:=l.foldl (λn c=>n*10+(c.toNat - 48)) acc
theorem ra {b:UInt8}:nh b=true↔48≤b.toNat∧b.toNat≤57:=by
 unfold nh
 rw [Bool.and_eq_true,decide_eq_true_iff,decide_eq_true_iff,UInt8.le_iff_toNat_le,UInt8.le_iff_toNat_le]
 rfl
theorem bd5:∀ (l:List UInt8) (acc:Nat),acc*10 ^ l.length≤vD acc l
 | [],acc=>by simp [vD]
 | c::l,acc=>by
  have h:=bd5 l (acc*10+(c.toNat - 48))
  have e:vD acc (c::l)=vD (acc*10+(c.toNat - 48)) l:=rfl
  rw [e]
  refine Nat.le_trans ?_ h
  rw [List.length_cons,Nat.pow_succ,show acc*(10 ^ l.length*10)=(acc*10)*10 ^ l.length by rw [Nat.mul_comm (10 ^ l.length),Nat.mul_assoc]]
  exact Nat.mul_le_mul_right _ (Nat.le_add_right _ _)
theorem bi5:∀ (l:List UInt8) (acc:Nat),l.all nh=true→vD acc l<(acc+1)*10 ^ l.length
 | [],acc,_=>by simp [vD]
 | c::l,acc,h=>by
  rw [List.all_cons,Bool.and_eq_true,ra] at h
  have h1:=bi5 l (acc*10+(c.toNat - 48)) h.2
  have e:vD acc (c::l)=vD (acc*10+(c.toNat - 48)) l:=rfl
  rw [e]
  refine Nat.lt_of_lt_of_le h1 ?_
  rw [List.length_cons,Nat.pow_succ,show (acc+1)*(10 ^ l.length*10)=((acc+1)*10)*10 ^ l.length by rw [Nat.mul_comm (10 ^ l.length),Nat.mul_assoc]]
  exact Nat.mul_le_mul_right _ (by omega)
theorem at9 (acc:Nat) (l:List UInt8) (c:UInt8):vD acc (l++[c])=vD acc l*10+(c.toNat - 48):=by simp [vD]
theorem ze:∀ (l:List UInt8) (acc:Nat),l.all nh=true→Lib.decFrom acc l=some (vD acc l)
 | [],_,_=>rfl
 | c::l,acc,h=>by
  rw [List.all_cons,Bool.and_eq_true,ra] at h
  have hd:Lib.digitVal c=some (c.toNat - 48):=by unfold Lib.digitVal;rw [if_pos h.1]
  show (match Lib.digitVal c with | some d=>Lib.decFrom (acc*10+d) l | none=>none)=_
  rw [hd]
  exact ze l _ h.2
theorem aj8 {s:Str} (h0:s.b≠[]) (hl:s.b.length≤18) (h:s.b.all nh=true):strconv_Atoi s=some (((vD 0 s.b:Nat):Int),()):=by
 unfold strconv_Atoi au2
 rw [if_pos hl]
 obtain ⟨c,l,hc⟩:∃ c l,s.b=c::l:=by cases hs:s.b with | nil=>exact absurd hs h0 | cons c l=>exact ⟨c,l,rfl⟩
 have hd:Lib.decNat s.b=some (vD 0 s.b):=by
  unfold Lib.decNat
  rw [if_neg (by rw [hc];simp),ze s.b 0 h]
 rw [hc] at hd h ⊢
 rw [List.all_cons,Bool.and_eq_true,ra] at h
 have e1:(c == 45)=false:=by
  rw [beq_eq_false_iff_ne];rintro rfl;have:=h.1;simp at this
 have e2:(c == 43)=false:=by
  rw [beq_eq_false_iff_ne];rintro rfl;have:=h.1;simp at this
 show Option.map (λn=>(n,())) (if (c == 45)=true then (Lib.decNat l).map (λ(m:Nat)=>-(m:Int)) else if (c == 43)=true then (Lib.decNat l).map (λ(m:Nat)=>(m:Int)) else (Lib.decNat (c::l)).map (λ(m:Nat)=>(m:Int)))=_
 rw [e1,e2,hd]
 rfl
def ue (l:List UInt8):Bool:=decide (1<l.length)&&decide (l[0]?=some 48)
def q7 (s:Str):Int:=if s.b≠[]∧s.b.all nh=true∧ue s.b=false∧vD 0 s.b≤255 then (vD 0 s.b:Nat) else -1
theorem aa9 {l:List UInt8} (hz:ue l=false) (hd:l.all nh=true) (hl:4≤l.length):255<vD 0 l:=by
 cases l with
 | nil=>simp at hl
 | cons c l =>
  rw [List.all_cons,Bool.and_eq_true,ra] at hd
  have h1:c≠48:=by
   rintro rfl
   unfold ue at hz
   simp at hz
   simp at hl
   rw [hz] at hl
   simp at hl
  have h2:c.toNat≠48:=λe=>h1 (UInt8.toNat_inj.1 e)
  have h3:=bd5 l (c.toNat - 48)
  have e:vD 0 (c::l)=vD (c.toNat - 48) l:=by show vD (0*10+(c.toNat - 48)) l=_;rw [Nat.zero_mul,Nat.zero_add]
  rw [e]
  simp at hl
  have h4:10 ^ 3≤10 ^ l.length:=Nat.pow_le_pow_right (by decide) hl
  have h5:1*10 ^ l.length≤(c.toNat - 48)*10 ^ l.length:=Nat.mul_le_mul_right _ (by omega)
  omega
theorem aa2 (s:Str):qg s 255=some (q7 s):=by
 unfold qg
 by_cases h0:s.b=[]
 ·have:s=mkS []:=Str.ext' h0
  subst this
  simp [q7,mkS]
 have h0':s≠mkS []:=λe=>h0 (by rw [e];rfl)
 obtain ⟨c,l,hc⟩:∃ c l,s.b=c::l:=by cases hs:s.b with | nil=>exact absurd hs h0 | cons c l=>exact ⟨c,l,rfl⟩
 have hg:kn s.b 0=some c:=by rw [hc];rfl
 have hz:(if decide (1<(s.b.length:Int)) then (kn s.b 0).bind λuA=>some (decide (uA=(48:UInt8))) else some false:Option Bool)=some (ue s.b):=by
  unfold ue
  rw [hg,obS]
  have:decide (s.b[0]?=some 48)=decide (c=48):=by rw [hc];simp
  rw [this]
  have e:decide (1<(s.b.length:Int))=decide (1<s.b.length):=by rw [decide_eq_decide];omega
  rw [e]
  cases decide (1<s.b.length)<;>rfl
 rw [hz]
 simp only [h0',decide_false,Bool.false_eq_true,if_false]
 by_cases h5:5<(s.b.length:Int)
 ·simp only [h5,decide_true,if_true,obS]
  unfold q7
  rw [if_neg]
  rintro ⟨_,h2,h3,h4⟩
  have:=aa9 h3 h2 (by omega)
  omega
 ·simp only [h5,decide_false,Bool.false_eq_true,if_false,obS]
  cases hzb:ue s.b with
  | true =>
   simp only [if_true]
   unfold q7
   rw [if_neg]
   rintro ⟨_,_,h3,_⟩
   rw [hzb] at h3;cases h3
  | false =>
   simp only [Bool.false_eq_true,if_false]
   rw [vj (qT (xs:=s.b) (body:=(λ(uB:Int) (uE:Unit)=>((kn (s).b uB).bind λuC=>(nD uC).bind λuD=>if !(uD) then some (.inr (-1)) else some (.inl ()):Option ((Unit) ⊕ (Int))))) (λb=>!nh b) (-1) (λl x r he=>by
    rw [he,mA,obS,xN,obS]))]
   have e:s.b.any (λb=>!nh b)=!s.b.all nh:=by rw [List.not_all_eq_any_not]
   rw [e]
   cases hd:s.b.all nh with
   | false =>
    show some (-1:Int)=_
    unfold q7
    rw [if_neg]
    rintro ⟨_,h2,_⟩
    rw [hd] at h2;cases h2
   | true =>
    show (strconv_Atoi s).bind _=_
    rw [aj8 h0 (by omega) hd,obS]
    unfold q7
    by_cases h:vD 0 s.b≤255
    ·have e3 : ¬ (255 : Int) < ((vD 0 s.b : Nat) : Int) := by omega
     simp only [e3,decide_false,Bool.false_eq_true,if_false]
     rw [if_pos ⟨h0,hd,hzb,h⟩]
    ·have e3 : (255 : Int) < ((vD 0 s.b : Nat) : Int) := by omega
     simp only [e3,decide_true,if_true]
     rw [if_neg (λh'=>h h'.2.2.2)]
theorem cb9 {b:UInt8} (h:nh b=true):(b - (48:UInt8)).toNat=b.toNat - 48:=by
 have:=ra.1 h
 rw [UInt8.toNat_sub]
 have h48:(48:UInt8).toNat=48:=rfl
 omega
theorem ai2 {s:Str} (hl:s.b.length≤17):forN (λ(uA:Int) (uB:Int)=>(((kn (s).b uA).bind λuC=>if decide (uC<(48:UInt8)) then some true else (kn (s).b uA).bind λuD=>some (decide ((57:UInt8)<uD)):Option (Bool)).bind λuE=>if uE then some (.inr (0,false)) else (kn (s).b uA).bind λuF=>some (.inl (w64 ((w64 (uB*10))+((((uF - (48:UInt8))).toNat:Int))))):Option ((Int) ⊕ (Int × Bool)))) (((s.b.length:Int):Int) - 0).toNat 0 0=if s.b.all nh then some (.inl ((vD 0 s.b:Nat):Int)) else some (.inr ((0:Int),false)):=by
 rcases mr (xs:=s.b) (body:=(λ(uA:Int) (uB:Int)=>(((kn (s).b uA).bind λuC=>if decide (uC<(48:UInt8)) then some true else (kn (s).b uA).bind λuD=>some (decide ((57:UInt8)<uD)):Option (Bool)).bind λuE=>if uE then some (.inr (0,false)) else (kn (s).b uA).bind λuF=>some (.inl (w64 ((w64 (uB*10))+((((uF - (48:UInt8))).toNat:Int))))):Option ((Int) ⊕ (Int × Bool))))) (s:=(0:Int)) (λl x=>l.all nh=true∧x=((vD 0 l:Nat):Int)) (λy=>y=((0:Int),false)∧s.b.all nh=false) ⟨rfl,rfl⟩ (λl c r x he hI=>by
  obtain ⟨h1,rfl⟩:=hI
  have hlen:=congrArg List.length he
  simp at hlen
  rw [he,mA,obS,obS,obS]
  have hc1:(if decide (c<(48:UInt8)) then some true else some (decide ((57:UInt8)<c)):Option Bool)=some (!nh c):=by
   unfold nh
   have a1:decide ((48:UInt8)≤c)=!decide (c<(48:UInt8)):=by
    rw [← decide_not,decide_eq_decide];exact UInt8.not_lt.symm
   have a2:decide (c≤(57:UInt8))=!decide ((57:UInt8)<c):=by
    rw [← decide_not,decide_eq_decide];exact UInt8.not_lt.symm
   rw [a1,a2]
   cases decide (c<(48:UInt8))<;>simp
  rw [hc1,obS]
  cases hd:nh c with
  | false =>
   refine .inr ⟨_,rfl,rfl,?_⟩
   rw [List.all_append,List.all_cons,hd];simp
  | true =>
   refine .inl ⟨_,rfl,by rw [List.all_append,h1,List.all_cons,hd];rfl,?_⟩
   have hv:=bi5 l 0 h1
   have hp:(10:Nat) ^ l.length≤10 ^ 16:=Nat.pow_le_pow_right (by decide) (by omega)
   have hcd:=ra.1 hd
   rw [at9,cb9 hd,lV (n:=((vD 0 l:Nat):Int)*10) (by omega) (by omega),lV (by omega) (by omega)]
   omega) with ⟨x,h1,h2,rfl⟩ | ⟨y,h1,rfl,h2⟩
 ·rw [h1,h2];rfl
 ·rw [h1,h2];rfl
theorem ad5 (s:Str):∃ n ok,rF s=some (n,ok)∧(ok&&inB n 0 255)=decide (0≤q7 s)∧(0≤q7 s→n=q7 s):=by
 have hneg:∀ {p:Prop},q7 s=-1→(0≤q7 s→p):=λh h'=>by omega
 unfold rF
 cases hs:s.b with
 | nil =>
  have:q7 s=-1:=by unfold q7;rw [hs];simp
  refine ⟨0,false,?_,by rw [this];rfl,hneg this⟩
  simp [hs]
 | cons c l =>
  have hg:kn (c::l) 0=some c:=rfl
  have h1:(if decide (0<((c::l).length:Int)) then (kn (c::l) 0).bind λuB=>some (decide (uB=(45:UInt8))) else some false:Option Bool)=some (decide (c=45)):=by
   rw [if_pos (by simp),hg,obS]
  rw [h1,obS]
  have hz2:∀ (t:Str) (d:UInt8) (m:List UInt8) (ng:Bool),t.b=d::m→(if decide (((t).b.length:Int)=0) then some true else if decide (17<((t).b.length:Int)) then some true else (kn (t).b 0).bind λuC=>if decide (uC=(48:UInt8)) then (if decide (1<((t).b.length:Int)) then some true else some ng) else some false:Option Bool)=some (decide (17<t.b.length)||(decide (d=48)&&(decide (1<t.b.length)||ng))):=λt d m ng ht=>by
   have hg2:kn t.b 0=some d:=by rw [ht];rfl
   have a0:¬ ((t.b.length:Int)=0):=by rw [ht];simp;omega
   have a1:decide (17<(t.b.length:Int))=decide (17<t.b.length):=by rw [decide_eq_decide];omega
   have a2:decide (1<(t.b.length:Int))=decide (1<t.b.length):=by rw [decide_eq_decide];omega
   simp only [a0,decide_false,Bool.false_eq_true,if_false,a1,a2,hg2,obS]
   cases decide (17<t.b.length)<;>cases decide (d=48)<;>cases decide (1<t.b.length)<;>rfl
  by_cases hm:c=45
  ·subst hm
   have hI:q7 s=-1:=by
    unfold q7
    rw [if_neg]
    rintro ⟨_,h2,_⟩
    rw [hs,List.all_cons] at h2
    simp [nh] at h2
   obtain ⟨t,ht,htb⟩:∃ t,tF s 1 (s.b.length:Int)=some t∧t.b=l:=by
    refine ⟨_,rC.2 ⟨⟨by omega,by rw [hs];simp;omega,by omega⟩,rfl⟩,?_⟩
    show ((s.b.take _).drop _)=l
    rw [hs];simp
   have hsub:(if decide ((45:UInt8)=45) then (tF s 1 (((45:UInt8)::l).length:Int)).bind λuA=>some uA else some s:Option Str)=some t:=by
    rw [hs] at ht
    rw [if_pos (by decide),ht];rfl
   rw [hsub,obS]
   cases hl:l with
   | nil =>
    rw [hl] at htb
    refine ⟨0,false,?_,by rw [hI];rfl,hneg hI⟩
    simp [htb]
   | cons d m =>
    rw [hl] at htb
    rw [hz2 t d m _ htb,obS]
    cases hb:(decide (17<t.b.length)||(decide (d=48)&&(decide (1<t.b.length)||decide ((45:UInt8)=45)))) with
    | true=>exact ⟨0,false,rfl,by rw [hI];rfl,hneg hI⟩
    | false =>
     simp only [Bool.or_eq_false_iff,decide_eq_false_iff_not] at hb
     simp only [Bool.false_eq_true,if_false]
     rw [vj (ai2 (s:=t) (by omega))]
     cases hd:t.b.all nh with
     | false=>exact ⟨0,false,rfl,by rw [hI];rfl,hneg hI⟩
     | true =>
      have h48:d≠48:=by
       rintro rfl
       simp at hb
      rw [htb,List.all_cons,Bool.and_eq_true,ra] at hd
      have hlen:t.b.length≤17:=by omega
      have hv:=bd5 m (d.toNat - 48)
      have e:vD 0 t.b=vD (d.toNat - 48) m:=by rw [htb];show vD (0*10+(d.toNat - 48)) m=_;rw [Nat.zero_mul,Nat.zero_add]
      have h2:d.toNat≠48:=λe=>h48 (UInt8.toNat_inj.1 e)
      have h5:1*10 ^ m.length≤(d.toNat - 48)*10 ^ m.length:=Nat.mul_le_mul_right _ (by omega)
      have h6:0<10 ^ m.length:=Nat.pow_pos (by decide)
      have h7:=bi5 t.b 0 (by rw [htb,List.all_cons,Bool.and_eq_true,ra];exact hd)
      have h8:(10:Nat) ^ t.b.length≤10 ^ 17:=Nat.pow_le_pow_right (by decide) hlen
      refine ⟨-((vD 0 t.b:Nat):Int),true,?_,?_,hneg hI⟩
      ·have hw : w64 (0 - ((vD 0 t.b : Nat) : Int)) = -((vD 0 t.b : Nat) : Int) := by rw [lV (by omega) (by omega), Int.zero_sub]
       simp only [if_true,obS,Sum.elim_inl,decide_true,hw]
      ·rw [hI]
       have h9:decide (0≤-((vD 0 t.b:Nat):Int))=false:=by rw [decide_eq_false_iff_not];omega
       unfold inB
       rw [h9];rfl
  ·have hsub : (if decide (c = 45) then (tF s 1 ((c :: l).length : Int)).bind fun uA => some uA else some s : Option Str) = some s := by rw [if_neg (by simpa using hm)]
   rw [hsub,obS,hz2 s c l _ hs,obS]
   have hcm:decide (c=45)=false:=by simpa using hm
   rw [hcm,Bool.or_false]
   have hzb:ue s.b=(decide (c=48)&&decide (1<s.b.length)):=by
    unfold ue
    rw [Bool.and_comm,hs];simp
   rw [← hzb]
   cases hb:(decide (17<s.b.length)||ue s.b) with
   | true =>
    have hI:q7 s=-1:=by
     unfold q7
     rw [if_neg]
     rintro ⟨_,h2,h3,h4⟩
     rw [h3,Bool.or_false,decide_eq_true_iff] at hb
     have:=aa9 h3 h2 (by omega)
     omega
    exact ⟨0,false,rfl,by rw [hI];rfl,hneg hI⟩
   | false =>
    rw [Bool.or_eq_false_iff,decide_eq_false_iff_not] at hb
    simp only [Bool.false_eq_true,if_false]
    rw [vj (ai2 (s:=s) (by omega))]
    cases hd:s.b.all nh with
    | false =>
     have hI:q7 s=-1:=by
      unfold q7
      rw [if_neg]
      rintro ⟨_,h2,_⟩
      rw [hd] at h2;cases h2
     exact ⟨0,false,rfl,by rw [hI];rfl,hneg hI⟩
    | true =>
     refine ⟨((vD 0 s.b:Nat):Int),true,rfl,?_,λh=>?_⟩
     ·unfold q7
      by_cases h:vD 0 s.b≤255
      ·rw [if_pos ⟨by rw [hs]; simp, hd, hb.2, h⟩]
       have a:((vD 0 s.b:Nat):Int)≤255:=by omega
       simp [inB,a]
      ·rw [if_neg (λh'=>h h'.2.2.2)]
       have a:¬ ((vD 0 s.b:Nat):Int)≤255:=by omega
       simp [inB,a]
     ·unfold q7 at h ⊢
      split
      ·rfl
      ·rename_i h';rw [if_neg h'] at h;omega
end Prg
end Go.Wk
namespace Go.Wk
open Go
namespace Prg
set_option maxRecDepth 10000
def oZ (w:kJ):Bool :=
 if w.kind=1 then lu w.text else if w.kind=2 then decide (0≤q7 w.text) else if w.kind=3 then (match w.text.b with | [c]=>decide (c∈rO) | _=>false) else if w.kind=4 then sa w.text else false
def ac1 (w:kJ):Int:=if w.kind=2 then q7 w.text else -1
theorem wP (c:UInt8):∀ l:List UInt8,0≤Lib.indexByte l c↔c∈l
 | []=>by simp [Lib.indexByte]
 | b::l=>by
  have ih:=wP c l
  have hg:=Lib.indexByte_ge l c
  unfold Lib.indexByte
  by_cases h:b=c
  ·subst h;simp
  ·have h1:(b == c)=false:=beq_eq_false_iff_ne.2 h
   rw [h1]
   simp only [Bool.false_eq_true,if_false,List.mem_cons]
   by_cases h2:Lib.indexByte l c=-1
   ·have h3 : (Lib.indexByte l c == -1) = true := by rw [h2]; rfl
    rw [h3]
    simp only [if_true]
    rw [h2] at ih
    constructor
    ·intro h';omega
    ·rintro (h' | h')
     ·exact absurd h'.symm h
     ·have:=ih.2 h';omega
   ·have h3:(Lib.indexByte l c == -1)=false:=beq_eq_false_iff_ne.2 h2
    rw [h3]
    simp only [Bool.false_eq_true,if_false]
    constructor
    ·intro h';exact .inr (ih.1 (by omega))
    ·rintro (h' | h')
     ·exact absurd h'.symm h
     ·have:=ih.2 h';omega
theorem xC (w:kJ):oM w=some (oZ w):=by
 unfold oM oZ
 rw [xD,aa2,aq1,obS,obS,obS]
 by_cases h1:w.kind=1
 ·simp [h1]
 by_cases h2:w.kind=2
 ·simp [h2]
 by_cases h3:w.kind=3
 ·simp only [h3, decide_true, if_true, show ((3 : Int) = 1) = False by simp, show ((3 : Int) = 2) = False by simp, decide_false, Bool.false_eq_true, if_false]
  cases hb:w.text.b with
  | nil=>simp
  | cons c l =>
   cases l with
   | nil =>
    have:q8 (mkS [40,41,123,125,59,44,43,45,42,47,37,60,61,38,33,64]) w.text=some (decide (c∈rO)):=by
     unfold q8 wI
     rw [hb]
     show some (decide (0≤Lib.indexByte rO c))=_
     congr 1
     exact decide_eq_decide.2 (wP c rO)
    simp [this]
   | cons d l=>simp;omega
 by_cases h4:w.kind=4
 ·simp [h4,sa]
 ·simp [h1,h2,h3,h4]
theorem ce9 (b:UInt8):decide (o5 b=3)=decide (b∈rO):=by
 cases h1:oI b<;>cases h2:nh b<;>by_cases h3:b∈rO<;>by_cases h4:b=32∨b=10<;>simp [o5,h1,h2,h3,h4]
 all_goals
  have key:∀ c∈rO,oI c=false∧nh c=false:=by decide
  have:=key b h3
  simp_all
theorem tc (w:kJ):nN w=some (oZ w):=by
 unfold nN oZ
 rw [uo,ap6,obS,obS]
 by_cases h1:w.kind=1
 ·simp [h1]
 by_cases h2:w.kind=2
 ·simp only [h2, decide_true, if_true, show ((2 : Int) = 1) = False by simp, decide_false, Bool.false_eq_true, if_false]
  obtain ⟨n,ok,e1,e2,_⟩:=ad5 w.text
  rw [e1,obS,zI,obS,← e2]
  cases ok<;>rfl
 by_cases h3:w.kind=3
 ·simp only [h3, decide_true, if_true, show ((3 : Int) = 1) = False by simp, show ((3 : Int) = 2) = False by simp, decide_false, Bool.false_eq_true, if_false]
  cases hb:w.text.b with
  | nil=>simp
  | cons c l =>
   cases l with
   | nil =>
    have:kn [c] 0=some c:=rfl
    simp [this,sD,ce9]
   | cons d l=>simp;omega
 by_cases h4:w.kind=4
 ·simp [h4]
 ·simp [h1,h2,h3,h4]
theorem ax2 (w:kJ):qq w=some (ac1 w):=by
 unfold qq ac1
 rw [aa2]
 by_cases h:w.kind=2<;>simp [h]
theorem an0 (w:kJ):tD w=some (ac1 w):=by
 unfold tD ac1
 by_cases h:w.kind=2
 ·obtain ⟨n,ok,e1,e2,e3⟩:=ad5 w.text
  simp only [h,ne_eq,not_true_eq_false,decide_false,Bool.false_eq_true,if_false,if_true,tc,e1,obS]
  have:oZ w=decide (0≤q7 w.text):=by unfold oZ;rw [if_neg (by rw [h];decide),if_pos h]
  rw [this]
  by_cases h0:0≤q7 w.text
  ·simp [h0,e3 h0]
  ·have:q7 w.text=-1:=by
    unfold q7 at h0 ⊢
    split
    ·rename_i h';rw [if_pos h'] at h0;omega
    ·rfl
   simp [h0,this]
 ·simp [h]
def toS (l:List UInt8):Str:=if h:l.length≤140737488355328 then ⟨l,h⟩ else mkS []
theorem vq {l:List UInt8} (h:l.length≤140737488355328):(toS l).b=l:=by unfold toS;rw [dif_pos h]
theorem by0 {s:Str}:toS s.b=s:=by unfold toS;rw [dif_pos s.h]
def tK (c:UInt8) (s:Str):Int:=if sa s then 4 else if oI c then 1 else if nh c then 2 else 3
theorem wv {s:Str} {c:UInt8} {l:List UInt8} (hs:s.b=c::l) (h:sa s=true):oI c=true:=by
 have hm:s∈k7:=of_decide_eq_true h
 have key:∀ k∈k7,∃ c l,k.b=c::l∧oI c=true:=by
  intro k hk
  unfold k7 at hk
  simp only [List.mem_cons,List.not_mem_nil,or_false] at hk
  rcases hk with rfl | rfl | rfl | rfl | rfl | rfl | rfl | rfl | rfl<;>exact ⟨_,_,rfl,by decide⟩
 obtain ⟨c',l',h1,h2⟩:=key s hm
 rw [hs] at h1
 cases h1;exact h2
theorem zF {c:UInt8} (h:oI c=true):nh c=false:=by
 cases hd:nh c with
 | false=>rfl
 | true=>have:=zK.1 h;have:=ra.1 hd;omega
theorem bn7 {s:Str} {c:UInt8} {l:List UInt8} (hs:s.b=c::l):rG s=some ⟨tK c s,s⟩:=by
 unfold rG tK
 have hg:kn s.b 0=some c:=by rw [hs];rfl
 rw [hg,obS,xN,aq1,obS,obS,obS,xw,obS]
 show (if nh c then some (⟨2,s⟩:kJ) else if sa s then some ⟨4,s⟩ else if oI c then some ⟨1,s⟩ else some ⟨3,s⟩)=_
 cases hk:sa s with
 | true=>rw [zF (wv hs hk)];rfl
 | false=>cases hl:oI c<;>cases hd:nh c<;>first | rfl | (rw [zF hl] at hd;cases hd)
theorem bb4 {s:Str} {c:UInt8} {l:List UInt8} (hs:s.b=c::l) (hc:o5 c≠0) (hc4:o5 c≠4):od s=some ⟨tK c s,s⟩:=by
 unfold od tK
 have hg:kn s.b 0=some c:=by rw [hs];rfl
 rw [hg,obS,sD,ap6,obS,obS]
 cases hk:sa s with
 | true=>rfl
 | false =>
  show some (⟨o5 c,s⟩:kJ)=_
  have:o5 c=if oI c then 1 else if nh c then 2 else 3:=by
   revert hc hc4
   unfold o5
   cases oI c<;>cases nh c<;>(try by_cases h3:c∈rO)<;>(try by_cases h4:c=32∨c=10)<;>simp [*]
  rw [this];rfl
end Prg
end Go.Wk
namespace Go.Wk
open Go
namespace Prg
set_option maxRecDepth 10000
def nY (c:UInt8) (x:UInt8):Bool:=if oI c then oI x else if nh c then nh x else false
def tt (c:UInt8) (l:List UInt8):kJ:=⟨tK c (toS (c::l)),toS (c::l)⟩
def xX (c:UInt8):Bool:=decide (c=32∨c=10)
theorem xS (p:UInt8→Bool):∀ l:List UInt8,(l.dropWhile p).length≤l.length
 | []=>Nat.le_refl _
 | a::l=>by
  rw [List.dropWhile_cons]
  split
  ·exact Nat.le_trans (xS p l) (Nat.le_succ _)
  ·exact Nat.le_refl _
def tok (l:List UInt8):Option (List kJ):=match l with
 | []=>some []
 | c :: r => if xX c then tok r else
  if oZ (tt c (r.takeWhile (nY c))) then (tok (r.dropWhile (nY c))).map (tt c (r.takeWhile (nY c))::·) else none
termination_by l.length
decreasing_by
 ·simp
 ·exact Nat.lt_succ_of_le (xS _ _)
theorem tu:tok []=some []:=by rw [tok]
theorem tS (c : UInt8) (r : List UInt8) : tok (c :: r) = if xX c then tok r else
  if oZ (tt c (r.takeWhile (nY c))) then (tok (r.dropWhile (nY c))).map (tt c (r.takeWhile (nY c))::·) else none:=by rw [tok]
def xr (s:Str):Option (List kJ):=if s.b.length≤3000 then (tok s.b).filter (λws=>decide (ws.length≤600)) else none
def ak8 (s:Str):List kJ × Bool:=match xr s with
 | some ws=>(ws,true)
 | none=>([],false)
theorem al2 {s:Str} (hs:s.b.length≤3000) (p:UInt8→Bool) {body:Int→Option (Int ⊕ Int)}
  (hb:∀ k:Int,body k=(if decide (k<(s.b.length:Int)) then (kn s.b k).bind λx=>some (p x) else some false:Option Bool).bind λt=>if t then some (.inl (w64 (k+1))) else some (.inr k)) :
  ∀ (l:List UInt8) (k:Nat),s.b.drop k=l→k≤s.b.length→lH body (k:Int)=some ((k+(l.takeWhile p).length:Nat):Int):=by
 intro l
 induction l with
 | nil =>
  intro k he hk
  have:s.b.length≤k:=List.drop_eq_nil_iff.1 he
  refine lJ ?_
  rw [hb,if_neg (by simp;omega)]
  simp
 | cons c l ih =>
  intro k he hk
  have hlt:k<s.b.length:=by
   rcases Nat.lt_or_ge k s.b.length with h | h
   ·exact h
   ·rw [List.drop_eq_nil_of_le h] at he;cases he
  have hg:kn s.b (k:Int)=some c:=by
   rw [sg]
   have:=congrArg (λl=>l[0]?) he
   simpa using this
  have hd:s.b.drop (k+1)=l:=by rw [← List.drop_drop,he];rfl
  rw [List.takeWhile_cons]
  cases hp:p c with
  | true =>
   have:=ih (k+1) hd (by omega)
   rw [mQ (s':=((k+1:Nat):Int))]
   ·rw [this];simp;omega
   ·rw [hb, if_pos (by simp; omega), hg, obS, hp, obS, if_pos rfl, lV (by omega) (by omega)]
    rfl
  | false =>
   refine lJ ?_
   rw [hb,if_pos (by simp;omega),hg,obS,hp,obS]
   simp
theorem ac8 (p:UInt8→Bool) (l:List UInt8):l.drop (l.takeWhile p).length=l.dropWhile p:=by
 conv=>lhs;arg 2;rw [← List.takeWhile_append_dropWhile (p:=p) (l:=l)]
 rw [List.drop_left]
theorem av5 {s:Str} {k:Nat} {c:UInt8} {r:List UInt8} (p:UInt8→Bool) (he:s.b.drop k=c::r) (hk:k+1+(r.takeWhile p).length≤s.b.length):tF s (k:Int) ((k+1+(r.takeWhile p).length:Nat):Int)=some (toS (c::r.takeWhile p)):=by
 refine rC.2 ⟨⟨by omega,by omega,by omega⟩,Str.ext' ?_⟩
 have hl:(c::r.takeWhile p).length≤140737488355328:=by
  have:=s.h
  simp;omega
 rw [vq hl]
 show (s.b.take _).drop _=_
 rw [List.drop_take,show ((k:Int)).toNat=k by omega,he,show (((k+1+(r.takeWhile p).length:Nat):Int)).toNat - k=(r.takeWhile p).length+1 by omega,List.take_succ_cons]
 congr 1
 conv=>lhs;arg 2;rw [← List.takeWhile_append_dropWhile (p:=p) (l:=r)]
 rw [List.take_left]
theorem bo6 {c x:UInt8} (hc:xX c=false) (h0:o5 c≠0):(decide (o5 x=o5 c)&&decide (o5 c<3))=nY c x:=by
 unfold nY
 cases h1:oI c with
 | true =>
  have:o5 c=1:=by unfold o5;rw [h1];rfl
  rw [this,by8];simp
 | false =>
  cases h2:nh c with
  | true =>
   have e:o5 c=2:=by unfold o5;rw [h1,h2];rfl
   have e2:decide (o5 x=2)=nh x:=by
    cases h3:oI x<;>cases h4:nh x<;>by_cases h5:x∈rO<;>by_cases h6:x=32∨x=10<;>simp [o5,h3,h4,h5,h6]
    all_goals (have:=zF h3;rw [h4] at this;cases this)
   rw [e,e2];simp
  | false =>
   have:¬ o5 c<3:=by
    revert h0
    unfold o5
    rw [h1,h2]
    by_cases h5:c∈rO<;>by_cases h6:c=32∨c=10<;>simp [h5,h6]
   simp [this]
theorem as1 (c:UInt8):xX c=decide (o5 c=4):=by
 unfold xX
 by_cases h:c=32∨c=10
 ·rcases h with rfl | rfl<;>decide
 ·rw [decide_eq_false h]
  symm
  rw [decide_eq_false_iff_not]
  unfold o5
  cases oI c<;>cases nh c<;>by_cases h5:c∈rO<;>simp [h,h5]
def ax6 (acc:List kJ) (o:Option (List kJ)):(List kJ × Bool) ⊕ List kJ:=match o with
 | some ws=>if acc.length+ws.length≤600 then .inr (acc++ws) else .inl ([],false)
 | none=>.inl ([],false)
theorem be1 {s:Str} (hs:s.b.length≤3000):∀ (n:Nat) (l:List UInt8) (k:Nat) (acc:List kJ),l.length≤n→s.b.drop k=l→k≤s.b.length→acc.length≤600→lH (λ(uA:(List kJ) × Int)=>(if decide (uA.2<(((s).b.length:Int))) then (((kn (s).b uA.2).bind λuO=>if decide (uO=(32:UInt8)) then some true else (kn (s).b uA.2).bind λuE=>some (decide (uE=(10:UInt8))):Option (Bool)).bind λuP=>if uP then some (.inl (uA.1,w64 (uA.2+1))) else ((kn (s).b uA.2).bind λuQ=>(nM uQ).bind λuF=>(if uF then some (λy0=>nM y0) else (kn (s).b uA.2).bind λuG=>(nD uG).bind λuH=>(if uH then some (λy0=>nD y0) else some (λy0=>px y0):Option ((UInt8→Option Bool))).bind λuI=>some uI:Option ((UInt8→Option Bool))).bind λuJ=>some uJ:Option ((UInt8→Option Bool))).bind λuR=>((lH (S:=Int) (X:=Int) (λuB=>(if decide (uB<(((s).b.length:Int))) then (kn (s).b uB).bind λuC=>(uR uC).bind λuD=>some uD else some false:Option (Bool)).bind λuK=>if uK then some (.inl (w64 (uB+1))) else some (.inr uB)) (w64 (uA.2+1))).bind (λe0=>some e0):Option (Int)).bind λuL=>(tF s uA.2 uL).bind λuS=>(rG uS).bind λuM=>((oM uM).bind λuT=>if !(uT) then some true else some (decide (((uA.1.length:Int))=600)):Option (Bool)).bind λuU=>if uU then some (.inr ([],false)) else (lD uA.1 ([uM]:List kJ)).bind λuV=>some (.inl (uV,uL)):Option (((List kJ) × Int) ⊕ ((List kJ) × Bool))).bind (Sum.elim (λuN=>some (.inl (uN.1,uN.2))) (λe0=>some (.inr (.inl e0)))) else some (.inr (.inr uA.1)):Option (((List kJ) × Int) ⊕ (((List kJ) × Bool) ⊕ (List kJ))))) (acc,(k:Int))=some (ax6 acc (tok l)):=by
 intro n
 induction n with
 | zero =>
  intro l k acc hl he hk ha
  have:l=[]:=List.eq_nil_of_length_eq_zero (by omega)
  subst this
  have h1:s.b.length≤k:=List.drop_eq_nil_iff.1 he
  refine lJ ?_
  dsimp only
  rw [if_neg (by simp;omega),tu]
  simp [ax6,ha]
 | succ n ih =>
  intro l k acc hl he hk ha
  cases l with
  | nil =>
   have h1:s.b.length≤k:=List.drop_eq_nil_iff.1 he
   refine lJ ?_
   dsimp only
   rw [if_neg (by simp;omega),tu]
   simp [ax6,ha]
  | cons c r =>
   have hlt:k<s.b.length:=by
    rcases Nat.lt_or_ge k s.b.length with h | h
    ·exact h
    ·rw [List.drop_eq_nil_of_le h] at he;cases he
   have hg:kn s.b (k:Int)=some c:=by
    rw [sg]
    have:=congrArg (λl=>l[0]?) he
    simpa using this
   have hd:s.b.drop (k+1)=r:=by rw [← List.drop_drop,he];rfl
   have hrl:r.length+(k+1)=s.b.length:=by
    have:=congrArg List.length hd
    simp at this;omega
   have hblk:(if decide (c=(32:UInt8)) then some true else (kn s.b (k:Int)).bind λuE=>some (decide (uE=(10:UInt8))):Option Bool)=some (xX c):=by
    rw [hg,obS]
    unfold xX
    by_cases h:c=32<;>simp [h]
   rw [tS]
   cases hb:xX c with
   | true =>
    simp only [if_true]
    rw [mQ (s':=(acc,((k+1:Nat):Int)))]
    ·exact ih r (k+1) acc (by simp at hl;omega) hd (by omega) ha
    ·dsimp only
     rw [if_pos (by simp;omega),hg,obS]
     rw [hg] at hblk
     rw [hblk,hb,obS,if_pos rfl,lV (by omega) (by omega)]
     rfl
   | false =>
    simp only [Bool.false_eq_true,if_false]
    have hsel:∃ f:UInt8→Option Bool,((nM c).bind λuF=>(if uF then some (λy0=>nM y0) else (kn s.b (k:Int)).bind λuG=>(nD uG).bind λuH=>(if uH then some (λy0=>nD y0) else some (λy0=>px y0):Option ((UInt8→Option Bool))).bind λuI=>some uI:Option ((UInt8→Option Bool))).bind λuJ=>some uJ:Option (UInt8→Option Bool))=some f∧∀ x,f x=some (nY c x):=by
     rw [xw,obS,hg,obS,xN,obS]
     unfold nY
     cases oI c with
     | true=>exact ⟨_,rfl,λx=>xw x⟩
     | false =>
      cases nh c with
      | true=>exact ⟨_,rfl,λx=>xN x⟩
      | false=>exact ⟨_,rfl,λx=>rfl⟩
    obtain ⟨f,hf1,hf2⟩:=hsel
    have hrun:=al2 hs (nY c) (body:=(λ(uB:Int)=>((if decide (uB<(((s).b.length:Int))) then (kn (s).b uB).bind λuC=>(f uC).bind λuD=>some uD else some false:Option (Bool)).bind λuK=>if uK then some (.inl (w64 (uB+1))) else some (.inr uB):Option ((Int) ⊕ (Int))))) (λk=>by rw [show (λuC=>(f uC).bind λuD=>some uD)=λx=>some (nY c x) from funext λx=>by rw [hf2,obS]]) r (k+1) hd (by omega)
    have htl:(r.takeWhile (nY c)).length≤r.length:=by
     exact (List.takeWhile_sublist _).length_le
    have hsub:=av5 (s:=s) (k:=k) (nY c) he (by omega)
    have hwl:(c::r.takeWhile (nY c)).length≤140737488355328:=by have:=s.h;simp;omega
    have hw:=bn7 (s:=toS (c::r.takeWhile (nY c))) (vq hwl)
    have hk1:w64 ((k:Int)+1)=((k+1:Nat):Int):=by rw [lV (by omega) (by omega)];rfl
    have hnext:s.b.drop (k+1+(r.takeWhile (nY c)).length)=r.dropWhile (nY c):=by rw [← List.drop_drop,hd,ac8]
    have hw2:(⟨tK c (toS (c::r.takeWhile (nY c))),toS (c::r.takeWhile (nY c))⟩:kJ)=tt c (r.takeWhile (nY c)):=rfl
    rw [hw2] at hw
    rw [hg] at hblk
    simp only [hg,obS] at hf1
    have hdl:=xS (nY c) r
    cases hv:oZ (tt c (r.takeWhile (nY c))) with
    | false =>
     refine lJ ?_
     dsimp only
     rw [if_pos (by simp;omega),hg,obS,hblk,hb,obS]
     simp only [Bool.false_eq_true,if_false,obS]
     rw [hf1,obS,hk1,hrun,obS,obS,hsub,obS,hw,obS,xC,hv]
     rfl
    | true =>
     by_cases h6:acc.length=600
     ·rw [lJ (x:=.inl ([],false))]
      ·simp only [if_true]
       cases tok (r.dropWhile (nY c)) with
       | none=>rfl
       | some ws=>simp [ax6,h6]
      ·dsimp only
       rw [if_pos (by simp;omega),hg,obS,hblk,hb,obS]
       simp only [Bool.false_eq_true,if_false,obS]
       rw [hf1,obS,hk1,hrun,obS,obS,hsub,obS,hw,obS,xC,hv,h6]
       rfl
     ·rw [mQ (s':=(acc++[tt c (r.takeWhile (nY c))],((k+1+(r.takeWhile (nY c)).length:Nat):Int)))]
      ·rw [ih (r.dropWhile (nY c)) (k + 1 + (r.takeWhile (nY c)).length) (acc ++ [tt c (r.takeWhile (nY c))]) (by simp at hl; omega) hnext (by omega) (by simp; omega)]
       simp only [if_true]
       cases tok (r.dropWhile (nY c)) with
       | none=>rfl
       | some ws =>
        unfold ax6
        simp only [Option.map_some,List.length_append,List.length_cons,List.length_nil,List.append_assoc,List.singleton_append]
        rw [show acc.length+(0+1)+ws.length=acc.length+(ws.length+1) by omega]
      ·have h6' : decide ((acc.length : Int) = 600) = false := by rw [decide_eq_false_iff_not]; omega
       dsimp only
       rw [if_pos (by simp;omega),hg,obS,hblk,hb,obS]
       simp only [Bool.false_eq_true,if_false,obS]
       rw [hf1,obS,hk1,hrun,obS,obS,hsub,obS,hw,obS,xC,hv,obS]
       simp only [Bool.not_true,Bool.false_eq_true,if_false,h6',obS]
       rw [nC (by simp;omega),obS]
       rfl
theorem vl (s:Str):o9 s=some (ak8 s):=by
 unfold o9 ak8 xr
 by_cases hs:s.b.length≤3000
 ·have h1 : ¬ (3000 : Int) < (s.b.length : Int) := by omega
  simp only [h1,decide_false,Bool.false_eq_true,if_false,hs,if_true]
  have:=be1 hs s.b.length s.b 0 [] (Nat.le_refl _) rfl (Nat.zero_le _) (by simp)
  rw [show ((0:Nat):Int)=0 from rfl] at this
  rw [vj (vj this)]
  cases tok s.b with
  | none=>rfl
  | some ws =>
   unfold ax6
   simp only [List.length_nil,Nat.zero_add,List.nil_append,Option.filter]
   by_cases h:ws.length≤600<;>simp [h]
 ·have h1 : (3000 : Int) < (s.b.length : Int) := by omega
  simp [h1,hs]
end Prg
end Go.Wk
namespace Go.Wk
open Go
namespace Prg
set_option maxRecDepth 10000
def bo3 (acc:List kJ) (o:Option (List kJ)):(List kJ × Bool) ⊕ List kJ:=match o with
 | some ws=>.inr (acc++ws)
 | none=>.inl ([],false)
theorem bh6 {s:Str} (hs:s.b.length≤3000):∀ (n:Nat) (l:List UInt8) (k:Nat) (acc:List kJ),l.length≤n→s.b.drop k=l→k≤s.b.length→acc.length≤k→lH (λ(uA:(List kJ) × Int)=>((if decide (uA.2<(((s).b.length:Int))) then some (decide ((((s).b.length:Int))≤3000)) else some false:Option (Bool)).bind λuH=>if uH then (kn (s).b uA.2).bind λuI=>(mO uI).bind λuC=>((lH (S:=Int) (X:=Int) (λuB=>(if decide (uB<(((s).b.length:Int))) then (kn (s).b uB).bind λuD=>(mO uD).bind λuE=>if decide (uE=uC) then some (decide (uC<3)) else some false else some false:Option (Bool)).bind λuG=>if uG then some (.inl (w64 (uB+1))) else some (.inr uB)) (w64 (uA.2+1))).bind (λe0=>some e0):Option (Int)).bind λuF=>(if decide (uC≠4) then (if decide (uC=0) then some true else (tF s uA.2 uF).bind λuJ=>(od uJ).bind λuK=>(nN uK).bind λuL=>some (!(uL)):Option (Bool)).bind λuM=>if uM then some (.inr (([]:List kJ),false)) else (tF s uA.2 uF).bind λuN=>(od uN).bind λuO=>(lD uA.1 ([uO]:List kJ)).bind λuP=>some (.inl uP) else some (.inl uA.1):Option (((List kJ)) ⊕ ((List kJ) × Bool))).bind (Sum.elim (λuQ=>some (.inl (uQ,uF))) (λe0=>some (.inr (.inl e0)))) else some (.inr (.inr uA.1)):Option (((List kJ) × Int) ⊕ (((List kJ) × Bool) ⊕ (List kJ))))) (acc,(k:Int))=some (bo3 acc (tok l)):=by
 intro n
 have hend:∀ (k:Nat) (acc:List kJ),s.b.drop k=[]→lH (λ(uA:(List kJ) × Int)=>((if decide (uA.2<(((s).b.length:Int))) then some (decide ((((s).b.length:Int))≤3000)) else some false:Option (Bool)).bind λuH=>if uH then (kn (s).b uA.2).bind λuI=>(mO uI).bind λuC=>((lH (S:=Int) (X:=Int) (λuB=>(if decide (uB<(((s).b.length:Int))) then (kn (s).b uB).bind λuD=>(mO uD).bind λuE=>if decide (uE=uC) then some (decide (uC<3)) else some false else some false:Option (Bool)).bind λuG=>if uG then some (.inl (w64 (uB+1))) else some (.inr uB)) (w64 (uA.2+1))).bind (λe0=>some e0):Option (Int)).bind λuF=>(if decide (uC≠4) then (if decide (uC=0) then some true else (tF s uA.2 uF).bind λuJ=>(od uJ).bind λuK=>(nN uK).bind λuL=>some (!(uL)):Option (Bool)).bind λuM=>if uM then some (.inr (([]:List kJ),false)) else (tF s uA.2 uF).bind λuN=>(od uN).bind λuO=>(lD uA.1 ([uO]:List kJ)).bind λuP=>some (.inl uP) else some (.inl uA.1):Option (((List kJ)) ⊕ ((List kJ) × Bool))).bind (Sum.elim (λuQ=>some (.inl (uQ,uF))) (λe0=>some (.inr (.inl e0)))) else some (.inr (.inr uA.1)):Option (((List kJ) × Int) ⊕ (((List kJ) × Bool) ⊕ (List kJ))))) (acc,(k:Int))=some (bo3 acc (tok [])):=λk acc he=>by
  have h1:s.b.length≤k:=List.drop_eq_nil_iff.1 he
  refine lJ ?_
  dsimp only
  rw [if_neg (by simp;omega),tu]
  simp [bo3]
 induction n with
 | zero =>
  intro l k acc hl he hk ha
  have:l=[]:=List.eq_nil_of_length_eq_zero (by omega)
  subst this
  exact hend k acc he
 | succ n ih =>
  intro l k acc hl he hk ha
  cases l with
  | nil=>exact hend k acc he
  | cons c r =>
   have hlt:k<s.b.length:=by
    rcases Nat.lt_or_ge k s.b.length with h | h
    ·exact h
    ·rw [List.drop_eq_nil_of_le h] at he;cases he
   have hg:kn s.b (k:Int)=some c:=by
    rw [sg]
    have:=congrArg (λl=>l[0]?) he
    simpa using this
   have hd:s.b.drop (k+1)=r:=by rw [← List.drop_drop,he];rfl
   have hrl:r.length+(k+1)=s.b.length:=by
    have:=congrArg List.length hd
    simp at this;omega
   have hcond:(if decide ((k:Int)<(s.b.length:Int)) then some (decide ((s.b.length:Int)≤3000)) else some false:Option Bool)=some true:=by
    rw [if_pos (by simp;omega)];congr 1;rw [decide_eq_true_iff];omega
   have hk1:w64 ((k:Int)+1)=((k+1:Nat):Int):=by rw [lV (by omega) (by omega)];rfl
   obtain ⟨q,hq⟩:∃ q,q=o5 c:=⟨_,rfl⟩
   have hrun:=al2 hs (λx=>decide (o5 x=q)&&decide (q<3)) (body:=(λ(uB:Int)=>((if decide (uB<(((s).b.length:Int))) then (kn (s).b uB).bind λuD=>(mO uD).bind λuE=>if decide (uE=q) then some (decide (q<3)) else some false else some false:Option (Bool)).bind λuG=>if uG then some (.inl (w64 (uB+1))) else some (.inr uB):Option ((Int) ⊕ (Int))))) (λk=>by
    rw [show (λuD=>(mO uD).bind λuE=>if decide (uE=q) then some (decide (q<3)) else some false)=λx=>some (decide (o5 x=q)&&decide (q<3)) from funext λx=>by
     rw [sD,obS];cases decide (o5 x=q)<;>rfl]) r (k+1) hd (by omega)
   subst hq
   rw [tS]
   cases hb:xX c with
   | true =>
    have h4:o5 c=4:=of_decide_eq_true (by rw [← as1];exact hb)
    have hp:(λx=>decide (o5 x=o5 c)&&decide (o5 c<3))=λ_=>false:=funext λx=>by rw [h4];simp
    have ht:r.takeWhile (λ_:UInt8=>false)=[]:=by cases r<;>rfl
    rw [hp,ht] at hrun
    simp only [if_true]
    rw [mQ (s':=(acc,((k+1:Nat):Int)))]
    ·exact ih r (k+1) acc (by simp at hl;omega) hd (by omega) (by omega)
    ·dsimp only
     rw [hcond,obS,if_pos rfl,hg,obS,sD,obS,hk1,hrun,obS,obS,h4]
     rfl
   | false =>
    have h4:o5 c≠4:=λh=>by rw [as1,h] at hb;simp at hb
    simp only [Bool.false_eq_true,if_false]
    by_cases h0:o5 c=0
    ·have hv:oZ (tt c (r.takeWhile (nY c)))=false:=by
      have hl:oI c=false:=by cases h:oI c with | false=>rfl | true=>unfold o5 at h0;rw [h] at h0;simp at h0
      have hdg:nh c=false:=by cases h:nh c with | false=>rfl | true=>unfold o5 at h0;rw [hl,h] at h0;simp at h0
      have hsg:c ∉ rO:=λh=>by unfold o5 at h0;rw [hl,hdg] at h0;simp [h] at h0
      have ht:r.takeWhile (nY c)=[]:=by
       have:nY c=λ_=>false:=funext λx=>by unfold nY;rw [hl,hdg];rfl
       rw [this];cases r<;>rfl
      rw [ht]
      have hk:sa (toS [c])=false:=by
       cases h:sa (toS [c]) with
       | false=>rfl
       | true=>have:=wv (vq (l:=[c]) (by simp)) h;rw [hl] at this;cases this
      have:tt c []=⟨3,toS [c]⟩:=by unfold tt tK;rw [hk,hl,hdg];rfl
      rw [this]
      unfold oZ
      simp [vq (l:=[c]) (by simp),hsg]
     rw [hv]
     refine lJ ?_
     dsimp only
     rw [hcond,obS,if_pos rfl,hg,obS,sD,obS,hk1,hrun,obS,obS,h0]
     rfl
    ·have hp:(λx=>decide (o5 x=o5 c)&&decide (o5 c<3))=nY c:=funext λx=>bo6 hb h0
     rw [hp] at hrun
     have htl:(r.takeWhile (nY c)).length≤r.length:=(List.takeWhile_sublist _).length_le
     have hsub:=av5 (s:=s) (k:=k) (nY c) he (by omega)
     have hwl:(c::r.takeWhile (nY c)).length≤140737488355328:=by have:=s.h;simp;omega
     have hw:=bb4 (s:=toS (c::r.takeWhile (nY c))) (vq hwl) h0 h4
     have hw2:(⟨tK c (toS (c::r.takeWhile (nY c))),toS (c::r.takeWhile (nY c))⟩:kJ)=tt c (r.takeWhile (nY c)):=rfl
     rw [hw2] at hw
     have hdl:=xS (nY c) r
     have hnext:s.b.drop (k+1+(r.takeWhile (nY c)).length)=r.dropWhile (nY c):=by rw [← List.drop_drop,hd,ac8]
     have h4':decide (o5 c≠4)=true:=decide_eq_true h4
     have h0':decide (o5 c=0)=false:=decide_eq_false h0
     cases hv:oZ (tt c (r.takeWhile (nY c))) with
     | false =>
      refine lJ ?_
      dsimp only
      rw [hcond,obS,if_pos rfl,hg,obS,sD,obS,hk1,hrun,obS,obS,h4',h0']
      simp only [if_true,Bool.false_eq_true,if_false]
      rw [hsub,obS,hw,obS,tc,hv]
      rfl
     | true =>
      simp only [if_true]
      rw [mQ (s':=(acc++[tt c (r.takeWhile (nY c))],((k+1+(r.takeWhile (nY c)).length:Nat):Int)))]
      ·rw [ih (r.dropWhile (nY c)) (k + 1 + (r.takeWhile (nY c)).length) (acc ++ [tt c (r.takeWhile (nY c))]) (by simp at hl; omega) hnext (by omega) (by simp; omega)]
       cases tok (r.dropWhile (nY c)) with
       | none=>rfl
       | some ws=>simp [bo3]
      ·dsimp only
       rw [hcond,obS,if_pos rfl,hg,obS,sD,obS,hk1,hrun,obS,obS,h4',h0']
       simp only [if_true,Bool.false_eq_true,if_false]
       rw [hsub,obS,hw,obS,tc,hv,obS,obS]
       simp only [Bool.not_true,Bool.false_eq_true,if_false]
       rw [obS,hw,obS,nC (by simp;omega),obS]
       rfl
theorem ua (s:Str):qD s=some (ak8 s):=by
 unfold qD ak8 xr
 by_cases hs:s.b.length≤3000
 ·have := bh6 hs s.b.length s.b 0 [] (Nat.le_refl _) rfl (Nat.zero_le _) (by simp)
  rw [show ((0:Nat):Int)=0 from rfl] at this
  rw [vj (vj this),if_pos hs]
  have h1:decide ((3000:Int)<(s.b.length:Int))=false:=by rw [decide_eq_false_iff_not];omega
  cases tok s.b with
  | none=>rfl
  | some ws =>
   show (if decide ((3000:Int)<(s.b.length:Int)) then some true else some (decide (600<(([]++ws:List kJ).length:Int)))).bind _=_
   rw [h1]
   simp only [List.nil_append,Option.filter,Bool.false_eq_true,if_false,obS]
   by_cases h:ws.length≤600
   ·have : ¬ (600 : Int) < (ws.length : Int) := by omega
    simp [h,this]
   ·have : (600 : Int) < (ws.length : Int) := by omega
    simp [h,this]
 ·rw [if_neg hs]
  have h1:decide ((3000:Int)<(s.b.length:Int))=true:=by rw [decide_eq_true_iff];omega
  have h2:decide ((s.b.length:Int)≤3000)=false:=by rw [decide_eq_false_iff_not];omega
  rw [vj (vj (lJ (x:=.inr []) (by
   dsimp only
   rw [h2]
   cases decide ((0:Int)<(s.b.length:Int))<;>rfl)))]
  show (if decide ((3000:Int)<(s.b.length:Int)) then some true else some (decide (600<(([]:List kJ).length:Int)))).bind _=_
  rw [h1]
  rfl
end Prg
end Go.Wk
namespace Go.Wk
open Go
namespace Prg
set_option maxRecDepth 10000
theorem zE {P:kK→Prop} (h:∀ e:kK,(∀ k∈e.kids,P k)→P e):∀ e,P e:=by
 have:∀ (n:Nat) (e:kK),SizeOf.sizeOf e≤n→P e:=by
  intro n
  induction n with
  | zero=>intro e he;cases e;simp at he
  | succ n ih =>
   intro e he
   refine h e λk hk=>ih k ?_
   have:=List.sizeOf_lt_of_mem hk
   cases e
   simp at he this ⊢
   omega
 exact λe=>this _ e (Nat.le_refl _)
mutual
def lz:kK→Nat
 | ⟨_,_,_,ks⟩=>1+mL ks
def mL:List kK→Nat
 | []=>0
 | k::ks=>lz k+mL ks
end
theorem oo (e:kK):lz e=1+mL e.kids:=by cases e;rw [lz]
theorem mI (k:kK) (ks:List kK):mL (k::ks)=lz k+mL ks:=by rw [mL]
theorem mz:mL []=0:=by rw [mL]
theorem pg:∀ (l r:List kK),mL (l++r)=mL l+mL r
 | [],r=>by rw [mz,List.nil_append,Nat.zero_add]
 | k::l,r=>by rw [List.cons_append,mI,mI,pg l r];omega
theorem sP {k:kK}:∀ {l:List kK},k∈l→lz k≤mL l
 | a::l,h=>by
  rw [mI]
  rcases List.mem_cons.1 h with rfl | h
  ·omega
  ·have:=sP h;omega
def lvI (op:Int):Int:=if op=10 then 1 else if op=8∨op=9 then 2 else if op=3∨op=4 then 3 else if op=5∨op=6∨op=7 then 4 else if op=11∨op=12 then 5 else 6
def qj (op:Int):Int × Int:=if op=1∨op=2 then (0,0) else if op=11∨op=12 then (1,1) else if op=13 then (0,3) else (2,2)
def rk (e:kK):Bool:=inB e.op 1 13&&(inB (e.kids.length:Int) (qj e.op).1 (qj e.op).2&&((if e.op=2∨e.op=13 then lu e.name else decide (e.name=mkS []))&&(inB e.n_ 0 255&&decide (e.op=1∨e.n_=0))))
def lR:Nat→kK→Bool
 | 0,_=>false
 | d+1,e=>rk e&&e.kids.all (lR d)
def nJ (e:kK):Bool:=lR 6 e&&decide (lz e≤30)
theorem ak2 {op:Int} (h:inB op 1 13=true):op=1∨op=2∨op=3∨op=4∨op=5∨op=6∨op=7∨op=8∨op=9∨op=10∨op=11∨op=12∨op=13:=by
 rw [oJ] at h;omega
theorem al7 (op:Int):qb op=some (lvI op):=by
 unfold qb lvI
 by_cases h1:op=10
 ·simp [h1]
 by_cases h2:op=8
 ·simp [h2]
 by_cases h3:op=9
 ·simp [h3]
 by_cases h4:op=3
 ·simp [h4]
 by_cases h5:op=4
 ·simp [h5]
 by_cases h6:op=5
 ·simp [h6]
 by_cases h7:op=6
 ·simp [h7]
 by_cases h8:op=7
 ·simp [h8]
 by_cases h9:op=11
 ·simp [h9]
 by_cases h10:op=12
 ·simp [h10]
 simp [h1,h2,h3,h4,h5,h6,h7,h8,h9,h10]
theorem bn5 (op:Int):ry op=some (qj op):=by
 unfold ry qj
 by_cases h1:op=1
 ·simp [h1]
 by_cases h2:op=2
 ·simp [h2]
 by_cases h3:op=11
 ·simp [h3]
 by_cases h4:op=12
 ·simp [h4]
 by_cases h5:op=13
 ·simp [h5]
 simp [h1,h2,h3,h4,h5]
def sgO (op:Int):k9:=(ni.get kO op).getD ⟨mkS [],0⟩
theorem br7 {op:Int} (h:¬ (3≤op∧op≤10)):sgO op=⟨mkS [],0⟩:=by
 unfold sgO
 cases hg:ni.get kO op with
 | none=>rfl
 | some v =>
  exfalso
  have hm:=(s7 kO.nodup).1 hg
  unfold kO at hm
  simp only [List.mem_cons,Prod.mk.injEq,List.not_mem_nil,or_false] at hm
  omega
theorem am5 (op:Int):(sgO op).level=if 3≤op∧op≤10 then lvI op else 0:=by
 by_cases h:3≤op∧op≤10
 ·rw [if_pos h]
  have:op=3∨op=4∨op=5∨op=6∨op=7∨op=8∨op=9∨op=10:=by omega
  rcases this with rfl | rfl | rfl | rfl | rfl | rfl | rfl | rfl<;>rfl
 ·rw [if_neg h,br7 h]
theorem w7 (op:Int):o0 op=some (lvI op):=by
  unfold o0
  show (if decide (0<(sgO op).level) then some (sgO op).level else _)=_
  rw [am5]
  by_cases h:3≤op∧op≤10
  · rw [if_pos h]
    have : 0 < lvI op := by unfold lvI; repeat' split
                            all_goals omega
    simp [this]
  · rw [if_neg h]
    unfold lvI
    by_cases h1:op=11
    · simp [h1]
    by_cases h2:op=12
    · simp [h2]
    have:¬ op=10∧¬ (op=8∨op=9)∧¬ (op=3∨op=4)∧¬ (op=5∨op=6∨op=7):=by omega
    simp [h1,h2,this]
end Prg
end Go.Wk
namespace Go.Wk
open Go
namespace Prg
set_option maxRecDepth 10000
theorem bl6 (n:Int):rl n=some (inB n 0 255):=by
 unfold rl;rw [vv];rfl
theorem ca6 (op:Int):((ni.get kO op).getD (⟨mkS [],0⟩:k9)).level=if 3≤op∧op≤10 then lvI op else 0:=am5 op
theorem ax9 (e : kK) (most : Int) : nO e most = if rk e && decide (1 ≤ most) then
  (forN (λ(uD:Int) (uC:Int × Int)=>((kn e.kids uD).bind λuE=>(nO uE (w64 (most - 1))).bind λuA=>if !(uA.2.2) then some (.inr (0,0,false)) else some (.inl (w64 (uC.1+uA.1),(um uC.2 (w64 (uA.2.1+1))))):Option ((Int × Int) ⊕ (Int × Int × Bool)))) (((e.kids.length:Int):Int) - 0).toNat 0 (1,1)).bind (Sum.elim (λuB=>some (uB.1,uB.2,decide (uB.1≤30))) (λe0=>some e0)) else some (0,0,false):=by
 rw [nO]
 generalize (forN (λ(uD:Int) (uC:Int × Int)=>((kn e.kids uD).bind λuE=>(nO uE (w64 (most - 1))).bind λuA=>if !(uA.2.2) then some (.inr (0,0,false)) else some (.inl (w64 (uC.1+uA.1),(um uC.2 (w64 (uA.2.1+1))))):Option ((Int × Int) ⊕ (Int × Int × Bool)))) (((e.kids.length:Int):Int) - 0).toNat 0 (1,1)).bind (Sum.elim (λuB=>some (uB.1,uB.2,decide (uB.1≤30))) (λe0=>some e0))=L
 simp only [bl6,xD,vv,w7,ca6,obS]
 have em:decide (most<1)=!decide (1≤most):=by
  by_cases h:1≤most
  ·have : ¬ most < 1 := by omega
   simp [h,this]
  ·have : most < 1 := by omega
   simp [h,this]
 rw [em]
 generalize decide (1≤most)=b
 obtain ⟨op,n,nm,ks⟩:=e
 unfold rk
 dsimp only
 have hn:n=0→inB n 0 255=true:=λh=>by rw [h];rfl
 cases hop:inB op 1 13 with
 | true =>
  cases hc:inB (ks.length:Int) (qj op).1 (qj op).2
  all_goals rcases ak2 hop with rfl | rfl | rfl | rfl | rfl | rfl | rfl | rfl | rfl | rfl | rfl | rfl | rfl
  all_goals
   simp only [lvI,qj] at hc ⊢
   simp at hc ⊢
   cases lu nm<;>cases h3:inB n 0 255<;>cases b<;>by_cases h1:nm=mkS []<;>by_cases h2:n=0<;>first | (simp [h1,h2,hc];done) | (exfalso;rw [hn h2] at h3;cases h3)
 | false =>
  have:¬ (1≤op∧op≤13):=λh=>by rw [oJ.2 h] at hop;cases hop
  have a1:op≠1:=by omega
  have a2:op≠2:=by omega
  have a3:op≠13:=by omega
  have a4:op≠11:=by omega
  have a5:op≠12:=by omega
  have a6:¬ (3≤op∧op≤10):=by omega
  simp [a1,a2,a3,a4,a5,a6]
def pbd:Nat→Nat
 | 0=>0
 | d+1=>1+3*pbd d
theorem qA {d:Nat} {e:kK} (h:lR (d+1) e=true):rk e=true∧∀ k∈e.kids,lR d k=true:=by
 rw [lR,Bool.and_eq_true,List.all_eq_true] at h;exact h
theorem vw {e:kK} (h:rk e=true):e.kids.length≤3:=by
  unfold rk at h
  simp only [Bool.and_eq_true] at h
  have h2:=oJ.1 h.2.1
  have : (qj e.op).2 ≤ 3 := by unfold qj; repeat' split
                               all_goals simp
  omega
theorem ad4 {n:Nat}:∀ {l:List kK},(∀ k∈l,lz k≤n)→mL l≤l.length*n
 | [],_=>by rw [mz];omega
 | k::l,h=>by
  have h1:=h k (by simp)
  have h2:=ad4 (l:=l) λx hx=>h x (by simp [hx])
  rw [mI,List.length_cons,Nat.succ_mul];omega
theorem zn:∀ {d:Nat} {e:kK},lR d e=true→lz e≤pbd d
 | 0,e,h=>by rw [lR] at h;cases h
 | d+1,e,h=>by
  obtain ⟨h1,h2⟩:=qA h
  have h3:=ad4 (n:=pbd d) (l:=e.kids) λk hk=>zn (h2 k hk)
  have h4:e.kids.length*pbd d≤3*pbd d:=Nat.mul_le_mul_right _ (vw h1)
  rw [oo,pbd];omega
theorem bm3:∀ (e:kK) (d:Int),d≤1000→-1000≤d→oa e d=some (lR d.toNat e):=by
 intro e
 induction e using zE with
 | h e ih =>
  intro d hd hd2
  rw [oa,bn5,obS]
  simp only [zI,uo,obS]
  by_cases h1:d<1
  ·have : d.toNat = 0 := by omega
   rw [this,lR]
   simp [h1]
  obtain ⟨m,hdm⟩:∃ m:Nat,d=(m:Int)+1:=⟨d.toNat - 1,by omega⟩
  have hm:d.toNat=m+1:=by omega
  rw [hm,lR]
  have hk:∀ k∈e.kids,oa k (w64 (d - 1))=some (lR m k):=by
   intro k hk
   rw [lV (by omega) (by omega),ih k hk _ (by omega) (by omega)]
   congr 2;omega
  have hl:forN (λ(uA:Int) (uD:Unit)=>((kn e.kids uA).bind λuB=>(oa uB (w64 (d - 1))).bind λuC=>if !(uC) then some (.inr false) else some (.inl ()):Option ((Unit) ⊕ (Bool)))) (((e.kids.length:Int):Int) - 0).toNat 0 ()=if e.kids.all (lR m) then some (.inl ()) else some (.inr false):=by
   rw [qT (xs:=e.kids) (body:=(λ(uA:Int) (uD:Unit)=>((kn e.kids uA).bind λuB=>(oa uB (w64 (d - 1))).bind λuC=>if !(uC) then some (.inr false) else some (.inl ()):Option ((Unit) ⊕ (Bool))))) (λk=>!lR m k) false (λl x r he=>by
    rw [he,mA,obS,hk x (by rw [he];simp),obS])]
   have:e.kids.any (λk=>!lR m k)=!e.kids.all (lR m):=by rw [List.not_all_eq_any_not]
   rw [this]
   cases e.kids.all (lR m)<;>rfl
  rw [hl]
  have e1:decide (d<1)=false:=by simp;omega
  rw [e1]
  unfold rk
  cases inB e.op 1 13 with
  | false=>rfl
  | true =>
  cases inB (e.kids.length:Int) (qj e.op).1 (qj e.op).2 with
  | false=>rfl
  | true =>
  have e2:(if decide (e.op=2) then some true else some (decide (e.op=13)):Option Bool)=some (decide (e.op=2∨e.op=13)):=by by_cases h:e.op=2<;>simp [h]
  simp only [Bool.false_eq_true,if_false,Bool.not_true,e2,obS,Bool.true_and]
  have hn:lu (mkS [])=false:=rfl
  have h0:e.n_=0→inB e.n_ 0 255=true:=λh=>by rw [h];rfl
  by_cases h:e.op=2∨e.op=13
  ·have h5 : ¬ e.op = 1 := by omega
   cases lu e.name<;>cases h3:inB e.n_ 0 255<;>cases e.kids.all (lR m)<;>by_cases h6:e.n_=0<;>first | (simp [h,h5,h6];done) | (exfalso;rw [h0 h6] at h3;cases h3)
  ·by_cases h7:e.name=mkS []
   ·rw [h7,hn]
    cases h3:inB e.n_ 0 255<;>cases e.kids.all (lR m)<;>by_cases h6:e.n_=0<;>by_cases h5:e.op=1<;>first | (simp [h,h5,h6];done) | (exfalso;rw [h0 h6] at h3;cases h3)
   ·cases lu e.name<;>cases h3:inB e.n_ 0 255<;>cases e.kids.all (lR m)<;>by_cases h6:e.n_=0<;>by_cases h5:e.op=1<;>first | (simp [h,h5,h6,h7];done) | (exfalso;rw [h0 h6] at h3;cases h3)
theorem ba2:∀ (e:kK),lz e≤1000000→pN e=some (lz e:Int):=by
 intro e
 induction e using zE with
 | h e ih =>
  intro he
  rw [pN]
  rw [oo] at he ⊢
  rcases mr (xs := e.kids) (body := (fun (uA : Int) (uB : Int) => ((kn e.kids uA).bind fun uC => (pN uC).bind fun uD => some (.inl (w64 (uB + uD))) : Option ((Int) ⊕ (Empty))))) (s := 1) (fun l s => s = ((1 + mL l : Nat) : Int)) (fun _ => False) (by rw [mz]; rfl) (fun l x r s hx hI => .inl (by
   have hp:=sP (k:=x) (l:=e.kids) (by rw [hx];simp)
   have hp2:mL e.kids=mL l+(lz x+mL r):=by rw [hx,pg,mI]
   refine ⟨_,?_,rfl⟩
   subst hI
   have hw:w64 (((1+mL l:Nat):Int)+(lz x:Int))=((1+mL (l++[x]):Nat):Int):=by
    rw [lV (by omega) (by omega),pg,mI,mz];omega
   rw [show kn e.kids (l.length:Int)=some x by rw [hx,mA],obS,ih x (by rw [hx];simp) (by omega),obS,hw])) with ⟨s,h1,h2⟩ | ⟨y,h1,h2⟩
  ·rw [h1,h2];rfl
  ·exact h2.elim
theorem bg0 (e:kK):pa e=some (nJ e):=by
 unfold pa nJ
 rw [bm3 e 6 (by omega) (by omega),obS]
 rw [show (6:Int).toNat=6 from rfl]
 cases h:lR 6 e with
 | false=>rfl
 | true =>
  have:=zn h
  rw [ba2 e (Nat.le_trans this (by decide))]
  have:decide ((lz e:Int)≤30)=decide (lz e≤30):=by rw [decide_eq_decide];omega
  simp [this]
theorem bp6:∀ (e:kK) (d:Nat),d≤6→∃ p h ok,nO e (d:Int)=some (p,h,ok)∧ok=(lR d e&&decide (lz e≤30))∧(ok=true→p=(lz e:Int)∧0≤h∧h≤(d:Int)):=by
 intro e
 induction e using zE with
 | h e ih =>
  intro d hd
  rw [ax9]
  cases d with
  | zero=>exact ⟨0,0,false,by simp,by rw [lR];rfl,λh=>by cases h⟩
  | succ d =>
  generalize hD:((d+1:Nat):Int)=D
  have e1:decide ((1:Int)≤D)=true:=by simp;omega
  rw [e1,Bool.and_true,lR]
  cases hh:rk e with
  | false=>exact ⟨0,0,false,rfl,rfl,λh=>by cases h⟩
  | true =>
  rw [if_pos rfl]
  have hk3:=vw hh
  rcases mr (xs:=e.kids) (body:=(λ(uC:Int) (uB:Int × Int)=>((kn e.kids uC).bind λuD=>(nO uD (w64 (D - 1))).bind λuA=>if !(uA.2.2) then some (.inr (0,0,false)) else some (.inl (w64 (uB.1+uA.1),(um uB.2 (w64 (uA.2.1+1))))):Option ((Int × Int) ⊕ (Int × Int × Bool))))) (s:=(1,1)) (λl s=>s.1=((1+mL l:Nat):Int)∧0≤s.2∧s.2≤D∧l.all (lR d)=true∧mL l≤l.length*30) (λy=>y=(0,0,false)∧(e.kids.all (lR d)&&decide (1+mL e.kids≤30))=false) ⟨by rw [mz];rfl,by simp,by simp only [];omega,rfl,by rw [mz];simp⟩ (λl x r s hx hI=>by
   have hp2:mL e.kids=mL l+(lz x+mL r):=by rw [hx,pg,mI]
   obtain ⟨p,h,ok,g1,g2,g3⟩:=ih x (by rw [hx];simp) d (by omega)
   have hll:l.length≤3:=by
    have:=congrArg List.length hx
    simp at this
    omega
   have g0:w64 (D - 1)=(d:Int):=by rw [lV (by omega) (by omega)];omega
   have gg:kn e.kids (l.length:Int)=some x:=by rw [hx,mA]
   cases hok:ok with
   | false =>
    refine .inr ⟨_,?_,rfl,?_⟩
    ·rw [gg,obS,g0,g1,hok];rfl
    ·rw [hok] at g2
     rw [hx,List.all_append,List.all_cons]
     cases h1:lR d x with
     | false=>simp
     | true =>
      rw [h1] at g2
      simp at g2
      have:¬ 1+mL e.kids≤30:=by omega
      rw [hx] at this
      simp [this]
   | true =>
    obtain ⟨g4,g5,g6⟩:=g3 hok
    rw [hok] at g2
    have g7:=g2.symm
    rw [Bool.and_eq_true,decide_eq_true_iff] at g7
    obtain ⟨i1,i2,i3,i4,i5⟩:=hI
    have hle:mL l≤3*30:=Nat.le_trans i5 (Nat.mul_le_mul_right _ hll)
    refine .inl ⟨(w64 (s.1+p),um s.2 (w64 (h+1))),?_,?_,?_,?_,?_,?_⟩
    ·rw [gg,obS,g0,g1,hok];rfl
    ·rw [i1,g4,lV (by omega) (by omega),pg,mI,mz];omega
    ·show 0 ≤ um s.2 (w64 (h + 1))
     rw [lV (by omega) (by omega)];unfold um;split<;>omega
    ·show um s.2 (w64 (h + 1)) ≤ _
     rw [lV (by omega) (by omega)];unfold um;split<;>omega
    ·rw [List.all_append,i4,List.all_cons,g7.1];rfl
    ·rw [pg,mI,mz,List.length_append,List.length_cons,List.length_nil,Nat.add_mul];omega) with ⟨s,h1,h2⟩ | ⟨y,h1,h2,h3⟩
  ·obtain ⟨i1,i2,i3,i4,i5⟩:=h2
   refine ⟨s.1,s.2,decide (s.1≤30),by rw [h1];rfl,?_,λ_=>⟨by rw [i1,oo],i2,i3⟩⟩
   rw [i4,Bool.true_and,Bool.true_and,i1,oo,decide_eq_decide];omega
  ·refine ⟨0, 0, false, by rw [h1, h2]; rfl, ?_, fun h => by cases h⟩
   rw [Bool.true_and,oo,h3]
theorem bo4 (e:kK):pb e=some (nJ e):=by
 unfold pb nJ
 obtain ⟨p,h,ok,h1,h2,h3⟩:=bp6 e 6 (by omega)
 rw [show (6:Int)=((6:Nat):Int) from rfl,h1,obS,h2]
end Prg
end Go.Wk
namespace Go.Wk
open Go
namespace Prg
set_option maxRecDepth 10000
def isT (ws:List kJ) (t:Str):Bool:=match ws with
 | []=>false
 | w::_=>decide (w.text=t)
def pkW (ws:List kJ):kJ:=match ws with
 | []=>⟨0,mkS []⟩
 | w::_=>w
theorem xW (ws:List kJ) (b:Bool):lI ⟨ws,b⟩=some (pkW ws):=by
 unfold lI
 cases ws with
 | nil=>rfl
 | cons w ws =>
  have:decide (((w::ws).length:Int)=0)=false:=by simp;omega
  rw [this];rfl
theorem uz (b:Bool):ku ⟨[],b⟩=some (⟨0,mkS []⟩,⟨[],true⟩):=by
 unfold ku
 rw [xW];rfl
theorem al3 (w:kJ) (ws:List kJ):zM (w::ws) 1 ((w::ws).length:Int)=some ws:=by
 unfold zM
 rw [if_pos ⟨by omega,by simp;omega,by omega⟩]
 simp
theorem sS (w:kJ) (ws:List kJ) (b:Bool):ku ⟨w::ws,b⟩=some (w,⟨ws,b⟩):=by
 unfold ku
 have:decide (((w::ws).length:Int)=0)=false:=by simp;omega
 rw [xW,obS]
 dsimp only
 rw [this,al3];rfl
def tkW (ws:List kJ) (k:Int) (t:Str):Bool:=match ws with
 | []=>false
 | w::_=>decide (w.kind=k)&&decide (w.text=t)
theorem pn (ws:List kJ) (b:Bool) (k:Int) (t:Str):kV ⟨ws,b⟩ k t=some (tkW ws k t,⟨if tkW ws k t then ws.tail else ws,b⟩):=by
 unfold kV
 rw [xW,obS]
 cases ws with
 | nil=>rfl
 | cons w ws =>
  have:decide (((w::ws).length:Int)=0)=false:=by simp;omega
  show (if decide (((w::ws).length:Int)=0) then _ else if decide (w.kind≠k) then some true else some (decide (w.text≠t))).bind (λs=>if s then _ else (zM (w::ws) 1 ((w::ws).length:Int)).bind _)=_
  rw [this,al3]
  unfold tkW
  by_cases h1:w.kind=k<;>by_cases h2:w.text=t<;>simp [h1,h2]
theorem tq (ws:List kJ) (b:Bool) (k:Int) (t:Str):kP ⟨ws,b⟩ k t=some ⟨if tkW ws k t then ws.tail else ws,if tkW ws k t then b else true⟩:=by
 unfold kP
 rw [pn,obS]
 cases tkW ws k t<;>rfl
theorem tg {w:kJ} {c:UInt8} (hw:oZ w=true) (hb:w.text.b=[c]) (hc:c∈rO):w.kind=3:=by
 have hcl:oI c=false∧nh c=false:=by
  have key:∀ c∈rO,oI c=false∧nh c=false:=by decide
  exact key c hc
 unfold oZ at hw
 by_cases h1:w.kind=1
 ·rw [if_pos h1] at hw
  unfold lu at hw
  rw [hb] at hw
  simp [hcl.1] at hw
 rw [if_neg h1] at hw
 by_cases h2:w.kind=2
 ·rw [if_pos h2] at hw
  unfold q7 at hw
  rw [hb] at hw
  simp [hcl.2] at hw
 rw [if_neg h2] at hw
 by_cases h3:w.kind=3
 ·exact h3
 rw [if_neg h3] at hw
 by_cases h4:w.kind=4
 ·rw [if_pos h4] at hw
  have:=wv hb hw
  rw [hcl.1] at this;cases this
 ·rw [if_neg h4] at hw;cases hw
theorem ud {ws:List kJ} (hw:∀ w∈ws,oZ w=true) {t:Str} {c:UInt8} (ht:t.b=[c]) (hc:c∈rO):tkW ws 3 t=isT ws t:=by
 cases ws with
 | nil=>rfl
 | cons w ws =>
  unfold tkW isT
  by_cases h:w.text=t
  ·have := tg (hw w (by simp)) (by rw [h]; exact ht) hc
   simp [h,this]
  ·simp [h]
theorem bd0 (list:List kJ) (n:Nat) (t:Str):mC list (n:Int) t=some (isT (list.drop n) t):=by
 unfold mC isT
 by_cases h:n<list.length
 ·have h1 : decide ((n : Int) < (list.length : Int)) = true := by simp; omega
  rw [h1,if_pos rfl,sg,List.getElem?_eq_getElem h,List.drop_eq_getElem_cons h];rfl
 ·have h1 : decide ((n : Int) < (list.length : Int)) = false := by simp; omega
  rw [h1,List.drop_eq_nil_of_le (by omega)];rfl
def opW (lv:Int) (w:kJ):Int :=
 if lv=1 then (if w.text=mkS [38] then 10 else 0)
 else if lv=2 then (if w.text=mkS [60] then 8 else if w.text=mkS [61] then 9 else 0)
 else if lv=3 then (if w.text=mkS [43] then 3 else if w.text=mkS [45] then 4 else 0)
 else (if w.text=mkS [42] then 5 else if w.text=mkS [47] then 6 else if w.text=mkS [37] then 7 else 0)
def opT (lv:Int) (ws:List kJ):Int:=match ws with
 | []=>0
 | w::_=>opW lv w
theorem bt7:mT 3=some (mkS [43]):=rfl
theorem bw2:mT 4=some (mkS [45]):=rfl
theorem bu3:mT 5=some (mkS [42]):=rfl
theorem bu6:mT 6=some (mkS [47]):=rfl
theorem by5:mT 7=some (mkS [37]):=rfl
theorem bx9:mT 8=some (mkS [60]):=rfl
theorem bu8:mT 9=some (mkS [61]):=rfl
theorem bm6:mT 10=some (mkS [38]):=rfl
theorem av9:mT 11=some (mkS [33]):=rfl
theorem as2:mT 12=some (mkS [64]):=rfl
theorem bz0 (list:List kJ) (n:Nat) (lv:Int) (hl:lv=1∨lv=2∨lv=3∨lv=4):mq list (n:Int) lv=some (opT lv (list.drop n)):=by
 unfold mq
 have e:(((10)+1:Int) - 3).toNat=8:=rfl
 rw [e]
 rcases hl with rfl | rfl | rfl | rfl
 all_goals
  simp only [forN,al7,lvI,obS,bd0]
  simp [bt7,bw2,bu3,bu6,by5,bx9,bu8,bm6,bd0]
  unfold opT isT
  cases list.drop n with
  | nil=>rfl
  | cons w r =>
   unfold opW
   dsimp only
   repeat' split
   all_goals simp_all
theorem yY {α S : Type} (q : α → Bool) (f : α → S) (K : S) {body : α → S → Option S} (hb : ∀ p s, body p s = some (if q p then f p else s)) : ∀ (fs : List α) (s : S), (∀ p ∈ fs, q p = true → f p = K) → pZ body fs s = some (if fs.any q then K else s)
 | [],s,_=>rfl
 | p::fs,s,h=>by
  rw [pZ,hb,obS,yY q f K hb fs _ λp hp=>h p (by simp [hp])]
  rw [List.any_cons]
  cases hq:q p with
  | true =>
   rw [h p (by simp) hq]
   cases fs.any q<;>rfl
  | false=>rfl
theorem ba0 {α:Type} {q:α→Bool} {fs es:List α} (hp:fs.Perm es):fs.any q=es.any q:=by
 cases h:es.any q with
 | true =>
  obtain ⟨x,h1,h2⟩:=List.any_eq_true.1 h
  exact List.any_eq_true.2 ⟨x,hp.mem_iff.2 h1,h2⟩
 | false =>
  rw [List.any_eq_false] at h ⊢
  exact λx hx=>h x (hp.mem_iff.1 hx)
theorem ai8 {α S:Type} (q:α→Bool) (f:α→S) (K:S) {body:α→S→Option S} (hb:∀ p s,body p s=some (if q p then f p else s)) {es:List α} {s:S} (h:∀ p∈es,q p=true→f p=K):qk body es s=some (if es.any q then K else s) :=
 aw2 λfs hp=>by
  rw [yY q f K hb fs s λp hx=>h p (hp.mem_iff.1 hx),ba0 hp]
def qE (lv:Int) (ws:List kJ) (p:Int × k9):Bool:=decide (p.2.level=lv)&&(decide ((pkW ws).kind=3)&&decide ((pkW ws).text=p.2.sign))
theorem bg2 (ws : List kJ) (hw : ∀ w ∈ ws, oZ w = true) (lv : Int) (hl : lv = 1 ∨ lv = 2 ∨ lv = 3 ∨ lv = 4) {body : Int × k9 → Int → Option Int} (hb : ∀ p s, body p s = some (if qE lv ws p then p.1 else s)) :
  qk body (kO:ni k9).es 0=some (opT lv ws):=by
 have hes:∀ p∈kO.es,p=(3,⟨mkS [43],3⟩)∨p=(4,⟨mkS [45],3⟩)∨p=(5,⟨mkS [42],4⟩)∨p=(6,⟨mkS [47],4⟩)∨p=(7,⟨mkS [37],4⟩)∨p=(8,⟨mkS [60],2⟩)∨p=(9,⟨mkS [61],2⟩)∨p=(10,⟨mkS [38],1⟩):=by
  intro p hp
  unfold kO at hp
  simpa only [List.mem_cons,List.not_mem_nil,or_false] using hp
 have hq:∀ p∈kO.es,qE lv ws p=true→p.1=opT lv ws:=by
  intro p hp hq
  cases ws with
  | nil=>simp [qE,pkW] at hq
  | cons w r =>
   unfold qE at hq
   simp only [Bool.and_eq_true,decide_eq_true_iff,pkW] at hq
   obtain ⟨h1,_,h2⟩:=hq
   replace h2:=of_decide_eq_true h2
   show p.1=opW lv w
   unfold opW
   rw [h2,← h1]
   rcases hes p hp with rfl | rfl | rfl | rfl | rfl | rfl | rfl | rfl<;>rfl
 rw [ai8 (qE lv ws) (λp=>p.1) (opT lv ws) hb hq]
 cases h:kO.es.any (qE lv ws) with
 | true=>rfl
 | false =>
  cases ws with
  | nil=>rfl
  | cons w r =>
   have key:∀ p∈kO.es,p.2.level=lv→w.text=p.2.sign→False:=by
    intro p hp h1 h2
    have hn:=List.any_eq_false.1 h p hp
    apply hn
    obtain ⟨c,h3,h4⟩:∃ c,p.2.sign.b=[c]∧c∈rO:=by
     rcases hes p hp with rfl | rfl | rfl | rfl | rfl | rfl | rfl | rfl<;>exact ⟨_,rfl,by decide⟩
    have h5:=tg (hw w (by simp)) (by rw [h2];exact h3) h4
    unfold qE
    simp [pkW,h1,h2,h5]
   have n3:lv=3→w.text≠mkS [43]:=λh h2=>key (3,⟨mkS [43],3⟩) (by simp [kO]) h.symm h2
   have n4:lv=3→w.text≠mkS [45]:=λh h2=>key (4,⟨mkS [45],3⟩) (by simp [kO]) h.symm h2
   have n5:lv=4→w.text≠mkS [42]:=λh h2=>key (5,⟨mkS [42],4⟩) (by simp [kO]) h.symm h2
   have n6:lv=4→w.text≠mkS [47]:=λh h2=>key (6,⟨mkS [47],4⟩) (by simp [kO]) h.symm h2
   have n7:lv=4→w.text≠mkS [37]:=λh h2=>key (7,⟨mkS [37],4⟩) (by simp [kO]) h.symm h2
   have n8:lv=2→w.text≠mkS [60]:=λh h2=>key (8,⟨mkS [60],2⟩) (by simp [kO]) h.symm h2
   have n9:lv=2→w.text≠mkS [61]:=λh h2=>key (9,⟨mkS [61],2⟩) (by simp [kO]) h.symm h2
   have n10:lv=1→w.text≠mkS [38]:=λh h2=>key (10,⟨mkS [38],1⟩) (by simp [kO]) h.symm h2
   show some 0=some (opW lv w)
   unfold opW
   rcases hl with rfl | rfl | rfl | rfl
   ·simp [n10 rfl]
   ·simp [n8 rfl,n9 rfl]
   ·simp [n3 rfl,n4 rfl]
   ·simp [n5 rfl,n6 rfl,n7 rfl]
end Prg
end Go.Wk
namespace Go.Wk
open Go
namespace Prg
set_option maxRecDepth 10000
inductive Job where
 | E (lv:Int) (ws:List kJ) (e:kK) (r:List kJ)
 | L (lv:Int) (x:kK) (ws:List kJ) (e:kK) (r:List kJ)
 | A (ws:List kJ) (ks:List kK) (r:List kJ)
 | M (acc:List kK) (ws:List kJ) (ks:List kK) (r:List kJ)
inductive Rd:Job→Prop
 | neg {w ws e r}:w.text=mkS [33]→Rd (.E 5 ws e r)→Rd (.E 5 (w::ws) ⟨11,0,mkS [],[e]⟩ r)
 | at_ {w ws e r}:w.text=mkS [64]→Rd (.E 5 ws e r)→Rd (.E 5 (w::ws) ⟨12,0,mkS [],[e]⟩ r)
 | par {w ws e v r}:w.text=mkS [40]→Rd (.E 1 ws e (v::r))→v.text=mkS [41]→Rd (.E 5 (w::ws) e r)
 | num {w r}:w.kind=2→Rd (.E 5 (w::r) ⟨1,ac1 w,mkS [],[]⟩ r)
 | var {w r}:w.kind=1→isT r (mkS [40])=false→Rd (.E 5 (w::r) ⟨2,0,w.text,[]⟩ r)
 | call {w v ws ks r}:w.kind=1→v.text=mkS [40]→Rd (.A ws ks r)→Rd (.E 5 (w::v::ws) ⟨13,0,w.text,ks⟩ r)
 | up {lv ws e ws' e' r}:(lv=1∨lv=2∨lv=3∨lv=4)→Rd (.E (lv+1) ws e ws')→Rd (.L lv e ws' e' r)→Rd (.E lv ws e' r)
 | stop {lv e ws}:opT lv ws=0→Rd (.L lv e ws e ws)
 | step {lv e w ws f ws' e' r}:opW lv w≠0→Rd (.E (lv+1) ws f ws')→Rd (.L lv ⟨opW lv w,0,mkS [],[e,f]⟩ ws' e' r)→Rd (.L lv e (w::ws) e' r)
 | done {v r}:v.text=mkS [41]→Rd (.A (v::r) [] r)
 | first {ws e ws' ks r}:isT ws (mkS [41])=false→Rd (.E 1 ws e ws')→Rd (.M [e] ws' ks r)→Rd (.A ws ks r)
 | last {acc v r}:v.text=mkS [41]→Rd (.M acc (v::r) acc r)
 | more {acc v ws e ws' ks r}:v.text=mkS [44]→Rd (.E 1 ws e ws')→Rd (.M (acc++[e]) ws' ks r)→Rd (.M acc (v::ws) ks r)
def bz2:Job→Prop
 | .E _ ws _ r=>r.length<ws.length∧∀ x∈r,x∈ws
 | .L _ _ ws _ r=>r.length≤ws.length∧∀ x∈r,x∈ws
 | .A ws _ r=>r.length<ws.length∧∀ x∈r,x∈ws
 | .M _ ws _ r=>r.length<ws.length∧∀ x∈r,x∈ws
theorem s9 {j:Job} (h:Rd j):bz2 j:=by
 induction h<;>simp only [bz2,List.length_cons,List.mem_cons] at *
 case neg ih=>exact ⟨by omega,λx hx=>.inr (ih.2 x hx)⟩
 case at_ ih=>exact ⟨by omega,λx hx=>.inr (ih.2 x hx)⟩
 case par ih=>exact ⟨by omega,λx hx=>.inr (ih.2 x (.inr hx))⟩
 case num=>exact ⟨by omega,λx hx=>.inr hx⟩
 case var=>exact ⟨by omega,λx hx=>.inr hx⟩
 case call ih=>exact ⟨by omega,λx hx=>.inr (.inr (ih.2 x hx))⟩
 case up ih1 ih2=>exact ⟨by omega,λx hx=>ih1.2 x (ih2.2 x hx)⟩
 case stop=>exact ⟨by omega,λx hx=>hx⟩
 case step ih1 ih2=>exact ⟨by omega,λx hx=>.inr (ih1.2 x (ih2.2 x hx))⟩
 case done=>exact ⟨by omega,λx hx=>.inr hx⟩
 case first ih1 ih2=>exact ⟨by omega,λx hx=>ih1.2 x (ih2.2 x hx)⟩
 case last=>exact ⟨by omega,λx hx=>.inr hx⟩
 case more ih1 ih2=>exact ⟨by omega,λx hx=>.inr (ih1.2 x (ih2.2 x hx))⟩
def AtW (list:List kJ) (n:Nat) (ws:List kJ):Prop:=list.drop n=ws∧n≤list.length
theorem mu {list:List kJ} {n:Nat} {w:kJ} {ws:List kJ} (h:AtW list n (w::ws)):n<list.length∧kn list (n:Int)=some w∧AtW list (n+1) ws:=by
 obtain ⟨h1,h2⟩:=h
 have hlt:n<list.length:=by
  rcases Nat.lt_or_ge n list.length with h | h
  ·exact h
  ·rw [List.drop_eq_nil_of_le h] at h1;cases h1
 rw [List.drop_eq_getElem_cons hlt] at h1
 cases h1
 exact ⟨hlt,by rw [sg,List.getElem?_eq_getElem hlt],rfl,hlt⟩
theorem ag7 {list:List kJ} {n:Nat} (h:AtW list n []):n=list.length:=by
 have:=List.drop_eq_nil_iff.1 h.1
 have:=h.2
 omega
theorem y8 {list:List kJ} {n:Nat} {ws:List kJ} (h:AtW list n ws) (t:Str):mC list (n:Int) t=some (isT ws t):=by rw [bd0,h.1]
theorem bt3 {list:List kJ} {n:Nat} {ws:List kJ} (h:AtW list n ws) {lv:Int} (hl:lv=1∨lv=2∨lv=3∨lv=4):mq list (n:Int) lv=some (opT lv ws):=by rw [bz0 _ _ _ hl,h.1]
theorem we {n:Nat} (h:n≤2000):w64 ((n:Int)+1)=((n+1:Nat):Int):=by rw [lV (by omega) (by omega)];omega
theorem cb7 {n:Nat} (h:n≤2000):w64 ((n:Int)+2)=((n+2:Nat):Int):=by rw [lV (by omega) (by omega)];omega
theorem oU {list:List kJ} (hl:list.length≤1000) {n:Nat} {w:kJ} {ws:List kJ} (h:AtW list n (w::ws)):nU list (n:Int) =
  if w.text=mkS [33] then (nU list ((n+1:Nat):Int)).bind λr=>some (⟨11,0,mkS [],[r.1]⟩,r.2)
  else if w.text=mkS [64] then (nU list ((n+1:Nat):Int)).bind λr=>some (⟨12,0,mkS [],[r.1]⟩,r.2)
  else if w.text=mkS [40] then (lL list ((n+1:Nat):Int) 1).bind λr=>(if decide (r.2<0) then some true else (mC list r.2 (mkS [41])).bind λb=>some (!b):Option Bool).bind λs=>if s then some (r.1,-1) else some (r.1,w64 (r.2+1))
  else if w.kind=2 then some (⟨1,ac1 w,mkS [],[]⟩,((n+1:Nat):Int))
  else if w.kind≠1 then some (⟨0,0,mkS [],[]⟩,-1)
  else if isT ws (mkS [40])=false then some (⟨2,0,w.text,[]⟩,((n+1:Nat):Int))
  else (rJ list ((n+2:Nat):Int)).bind λr=>some (⟨13,0,w.text,r.1⟩,r.2):=by
 obtain ⟨h1,h2,h3⟩:=mu h
 rw [nU,show (((12)+1:Int) - 11).toNat=2 from rfl]
 simp only [forN,av9,show ((11:Int)+1)=12 from rfl,as2,obS,we (show n≤2000 by omega),cb7 (show n≤2000 by omega),y8 h,y8 h3,h2,an0]
 have e1:decide ((n:Int)<(list.length:Int))=true:=by simp;omega
 have e2:decide ((list.length:Int)≤(n:Int))=false:=by simp;omega
 rw [e1,e2]
 unfold isT
 by_cases c1:w.text=mkS [33]
 ·simp only [c1,decide_true,if_true]
  cases nU list ((n+1:Nat):Int)<;>rfl
 by_cases c2:w.text=mkS [64]
 ·simp only [c1,c2,decide_true,decide_false,if_true,if_false,Bool.false_eq_true]
  cases nU list ((n+1:Nat):Int)<;>rfl
 by_cases c3:w.text=mkS [40]
 ·have a1 : (mkS [40] : Str) ≠ mkS [33] := by decide
  have a2:(mkS [40]:Str)≠mkS [64]:=by decide
  simp [c3,a1,a2]
 by_cases c4:w.kind=2
 ·simp [c1,c2,c3,c4]
 by_cases c5:w.kind=1
 ·cases ws with
  | nil=>simp [c1,c2,c3,c5]
  | cons v ws=>by_cases c6:v.text=mkS [40]<;>simp [c1,c2,c3,c5,c6]
 ·simp [c1,c2,c3,c4,c5]
theorem ay6 {list:List kJ} {n:Nat} (h:AtW list n []):nU list (n:Int)=some (⟨0,0,mkS [],[]⟩,-1):=by
 have h1:=ag7 h
 rw [nU,show (((12)+1:Int) - 11).toNat=2 from rfl]
 simp only [forN,av9,show ((11:Int)+1)=12 from rfl,as2,obS,y8 h]
 have e1:decide ((n:Int)<(list.length:Int))=false:=by simp;omega
 have e2:decide ((list.length:Int)≤(n:Int))=true:=by simp;omega
 rw [e1,e2]
 simp [isT]
theorem rf (list:List kJ) (n:Int):lL list n 5=nU list n:=by
 rw [lL]
 rw [if_pos (by decide)]
 cases nU list n<;>rfl
theorem bb7 {α:Type} {o:Option α}:(Option.bind o λe=>some e)=o:=by cases o<;>rfl
theorem ah7 {list:List kJ} {n lv:Int} (hl:lv=1∨lv=2∨lv=3∨lv=4):lL list n lv=(lL list n (lv+1)).bind λr=>(lH (λ(uA:Int × Int × Str × (List kK) × Int)=>((if decide (0≤uA.2.2.2.2) then (mq list uA.2.2.2.2 lv).bind λuC=>some (decide (0<uC)) else some false:Option (Bool)).bind λuD=>if uD then (mq list uA.2.2.2.2 lv).bind λuE=>(lL list (w64 (uA.2.2.2.2+1)) (w64 (lv+1))).bind λuB=>some (.inl (uE,0,(mkS []),([(⟨uA.1,uA.2.1,uA.2.2.1,uA.2.2.2.1⟩:kK),uB.1]:List kK),uB.2)) else some (.inr (uA.1,uA.2.1,uA.2.2.1,uA.2.2.2.1,uA.2.2.2.2)):Option ((Int × Int × Str × (List kK) × Int) ⊕ (Int × Int × Str × (List kK) × Int)))) (r.1.op,r.1.n_,r.1.name,r.1.kids,r.2)).bind λs=>some (⟨s.1,s.2.1,s.2.2.1,s.2.2.2.1⟩,s.2.2.2.2):=by
 have e:w64 (lv+1)=lv+1:=lV (by omega) (by omega)
 have e2:decide (4<lv)=false:=by simp;omega
 rw [lL,e2]
 simp only [Bool.false_eq_true,if_false,e,bb7]
end Prg
end Go.Wk
namespace Go.Wk
open Go
namespace Prg
set_option maxRecDepth 10000
theorem wY (e:kK):(⟨e.op,e.n_,e.name,e.kids⟩:kK)=e:=by cases e;rfl
theorem by3 (lv:Int) (w:kJ):0≤opW lv w:=by
 unfold opW;repeat' split
 all_goals decide
theorem bc8 {list:List kJ} {n:Nat} {ws:List kJ} (h:AtW list n ws) {lv:Int} (hl:lv=1∨lv=2∨lv=3∨lv=4) (ho:opT lv ws=0) {op n_:Int} {nm:Str} {ks:List kK} :
  lH (λ(uA:Int × Int × Str × (List kK) × Int)=>((if decide (0≤uA.2.2.2.2) then (mq list uA.2.2.2.2 lv).bind λuC=>some (decide (0<uC)) else some false:Option (Bool)).bind λuD=>if uD then (mq list uA.2.2.2.2 lv).bind λuE=>(lL list (w64 (uA.2.2.2.2+1)) (w64 (lv+1))).bind λuB=>some (.inl (uE,0,(mkS []),([(⟨uA.1,uA.2.1,uA.2.2.1,uA.2.2.2.1⟩:kK),uB.1]:List kK),uB.2)) else some (.inr (uA.1,uA.2.1,uA.2.2.1,uA.2.2.2.1,uA.2.2.2.2)):Option ((Int × Int × Str × (List kK) × Int) ⊕ (Int × Int × Str × (List kK) × Int)))) (op,n_,nm,ks,(n:Int))=some (op,n_,nm,ks,(n:Int)):=by
 refine lJ ?_
 have e1:decide (0≤(n:Int))=true:=by simp
 simp only [e1,bt3 h hl,ho,obS]
 rfl
theorem av7 {list:List kJ} {lv:Int} {op n_:Int} {nm:Str} {ks:List kK} :
  lH (λ(uA:Int × Int × Str × (List kK) × Int)=>((if decide (0≤uA.2.2.2.2) then (mq list uA.2.2.2.2 lv).bind λuC=>some (decide (0<uC)) else some false:Option (Bool)).bind λuD=>if uD then (mq list uA.2.2.2.2 lv).bind λuE=>(lL list (w64 (uA.2.2.2.2+1)) (w64 (lv+1))).bind λuB=>some (.inl (uE,0,(mkS []),([(⟨uA.1,uA.2.1,uA.2.2.1,uA.2.2.2.1⟩:kK),uB.1]:List kK),uB.2)) else some (.inr (uA.1,uA.2.1,uA.2.2.1,uA.2.2.2.1,uA.2.2.2.2)):Option ((Int × Int × Str × (List kK) × Int) ⊕ (Int × Int × Str × (List kK) × Int)))) (op,n_,nm,ks,-1)=some (op,n_,nm,ks,-1):=by
 refine lJ ?_
 rfl
theorem ab2 {list:List kJ} (hlen:list.length≤1000) {n:Nat} {w:kJ} {ws:List kJ} (h:AtW list n (w::ws)) {lv:Int} (hl:lv=1∨lv=2∨lv=3∨lv=4) (ho:opW lv w≠0) {op n_:Int} {nm:Str} {ks:List kK} {f:kK} {m:Int}
  (hr:lL list ((n+1:Nat):Int) (lv+1)=some (f,m)) :
  lH (λ(uA:Int × Int × Str × (List kK) × Int)=>((if decide (0≤uA.2.2.2.2) then (mq list uA.2.2.2.2 lv).bind λuC=>some (decide (0<uC)) else some false:Option (Bool)).bind λuD=>if uD then (mq list uA.2.2.2.2 lv).bind λuE=>(lL list (w64 (uA.2.2.2.2+1)) (w64 (lv+1))).bind λuB=>some (.inl (uE,0,(mkS []),([(⟨uA.1,uA.2.1,uA.2.2.1,uA.2.2.2.1⟩:kK),uB.1]:List kK),uB.2)) else some (.inr (uA.1,uA.2.1,uA.2.2.1,uA.2.2.2.1,uA.2.2.2.2)):Option ((Int × Int × Str × (List kK) × Int) ⊕ (Int × Int × Str × (List kK) × Int)))) (op,n_,nm,ks,(n:Int))=lH (λ(uA:Int × Int × Str × (List kK) × Int)=>((if decide (0≤uA.2.2.2.2) then (mq list uA.2.2.2.2 lv).bind λuC=>some (decide (0<uC)) else some false:Option (Bool)).bind λuD=>if uD then (mq list uA.2.2.2.2 lv).bind λuE=>(lL list (w64 (uA.2.2.2.2+1)) (w64 (lv+1))).bind λuB=>some (.inl (uE,0,(mkS []),([(⟨uA.1,uA.2.1,uA.2.2.1,uA.2.2.2.1⟩:kK),uB.1]:List kK),uB.2)) else some (.inr (uA.1,uA.2.1,uA.2.2.1,uA.2.2.2.1,uA.2.2.2.2)):Option ((Int × Int × Str × (List kK) × Int) ⊕ (Int × Int × Str × (List kK) × Int)))) (opW lv w,0,mkS [],[⟨op,n_,nm,ks⟩,f],m):=by
 obtain ⟨h1,h2,h3⟩:=mu h
 refine mQ ?_
 have e1:decide (0≤(n:Int))=true:=by simp
 have e2:decide (0<opW lv w)=true:=by have:=by3 lv w;simp;omega
 have e3:w64 (lv+1)=lv+1:=lV (by omega) (by omega)
 have e4:mq list (n:Int) lv=some (opW lv w):=bt3 h hl
 simp only [e1,e4,e2,e3,we (show n≤2000 by omega),hr,obS,if_true]
theorem zL {list:List kJ} (hlen:list.length≤1000) {n:Nat} {ws:List kJ} (h:AtW list n ws):rJ list (n:Int)=if isT ws (mkS [41]) then some ([],((n+1:Nat):Int)) else lH (λ(uC:Int × (List kK))=>((lL list uC.1 1).bind λuA=>(lD uC.2 ([uA.1]:List kK)).bind λuB=>(if decide (uA.2<0) then some true else (mC list uA.2 (mkS [41])).bind λuD=>some uD:Option (Bool)).bind λuE=>if uE then (oe uA.2).bind λuF=>some (.inr (uB,w64 (uA.2+uF))) else (mC list uA.2 (mkS [44])).bind λuG=>if !(uG) then some (.inr (uB,-1)) else some (.inl (w64 (uA.2+1),uB)):Option ((Int × (List kK)) ⊕ ((List kK) × Int)))) ((n:Int),[]):=by
 have:=h.2
 rw [rJ,y8 h,obS,we (show n≤2000 by omega),bb7]
theorem av1 {list:List kJ} {q:Int} {acc:List kK} (ha:acc.length≤1000) {e:kK} (hr:lL list q 1=some (e,-1)):lH (λ(uC:Int × (List kK))=>((lL list uC.1 1).bind λuA=>(lD uC.2 ([uA.1]:List kK)).bind λuB=>(if decide (uA.2<0) then some true else (mC list uA.2 (mkS [41])).bind λuD=>some uD:Option (Bool)).bind λuE=>if uE then (oe uA.2).bind λuF=>some (.inr (uB,w64 (uA.2+uF))) else (mC list uA.2 (mkS [44])).bind λuG=>if !(uG) then some (.inr (uB,-1)) else some (.inl (w64 (uA.2+1),uB)):Option ((Int × (List kK)) ⊕ ((List kK) × Int)))) (q,acc)=some (acc++[e],-1):=by
 refine lJ ?_
 simp only [hr,obS,nC (show acc.length+[e].length≤2147483648 by simp;omega)]
 rfl
theorem yO {list:List kJ} (hlen:list.length≤1000) {q:Int} {acc:List kK} (ha:acc.length≤1000) {e:kK} {n:Nat} {ws:List kJ} (h:AtW list n ws) (hr:lL list q 1=some (e,(n:Int))) :
  lH (λ(uC:Int × (List kK))=>((lL list uC.1 1).bind λuA=>(lD uC.2 ([uA.1]:List kK)).bind λuB=>(if decide (uA.2<0) then some true else (mC list uA.2 (mkS [41])).bind λuD=>some uD:Option (Bool)).bind λuE=>if uE then (oe uA.2).bind λuF=>some (.inr (uB,w64 (uA.2+uF))) else (mC list uA.2 (mkS [44])).bind λuG=>if !(uG) then some (.inr (uB,-1)) else some (.inl (w64 (uA.2+1),uB)):Option ((Int × (List kK)) ⊕ ((List kK) × Int)))) (q,acc)=if isT ws (mkS [41]) then some (acc++[e],((n+1:Nat):Int)) else if isT ws (mkS [44]) then lH (λ(uC:Int × (List kK))=>((lL list uC.1 1).bind λuA=>(lD uC.2 ([uA.1]:List kK)).bind λuB=>(if decide (uA.2<0) then some true else (mC list uA.2 (mkS [41])).bind λuD=>some uD:Option (Bool)).bind λuE=>if uE then (oe uA.2).bind λuF=>some (.inr (uB,w64 (uA.2+uF))) else (mC list uA.2 (mkS [44])).bind λuG=>if !(uG) then some (.inr (uB,-1)) else some (.inl (w64 (uA.2+1),uB)):Option ((Int × (List kK)) ⊕ ((List kK) × Int)))) (((n+1:Nat):Int),acc++[e]) else some (acc++[e],-1):=by
 have:=h.2
 have e1:decide ((n:Int)<0)=false:=by simp
 have hb:((λ(uC:Int × (List kK))=>((lL list uC.1 1).bind λuA=>(lD uC.2 ([uA.1]:List kK)).bind λuB=>(if decide (uA.2<0) then some true else (mC list uA.2 (mkS [41])).bind λuD=>some uD:Option (Bool)).bind λuE=>if uE then (oe uA.2).bind λuF=>some (.inr (uB,w64 (uA.2+uF))) else (mC list uA.2 (mkS [44])).bind λuG=>if !(uG) then some (.inr (uB,-1)) else some (.inl (w64 (uA.2+1),uB)):Option ((Int × (List kK)) ⊕ ((List kK) × Int)))):_→_) (q,acc)=if isT ws (mkS [41]) then some (.inr (acc++[e],((n+1:Nat):Int))) else if isT ws (mkS [44]) then some (.inl (((n+1:Nat):Int),acc++[e])) else some (.inr (acc++[e],-1)):=by
  have hs:oe (n:Int)=some 1:=by unfold oe;rw [e1];rfl
  simp only [hr,obS,nC (show acc.length+[e].length≤2147483648 by simp;omega),e1,y8 h,hs,we (show n≤2000 by omega),Bool.false_eq_true,if_false]
  cases isT ws (mkS [41])<;>cases isT ws (mkS [44])<;>rfl
 cases h1:isT ws (mkS [41]) with
 | true=>rw [h1] at hb;exact lJ hb
 | false =>
  rw [h1] at hb
  cases h2:isT ws (mkS [44]) with
  | true=>rw [h2] at hb;exact mQ hb
  | false=>rw [h2] at hb;exact lJ hb
def bt6 (list:List kJ):Job→Prop
 | .E lv ws e r=>∀ n,AtW list n ws→∃ m,AtW list m r∧n<m∧lL list (n:Int) lv=some (e,((m:Nat):Int))
 | .L lv x ws e r=>(lv=1∨lv=2∨lv=3∨lv=4)→∀ n,AtW list n ws→∃ m,AtW list m r∧n≤m∧lH (λ(uA:Int × Int × Str × (List kK) × Int)=>((if decide (0≤uA.2.2.2.2) then (mq list uA.2.2.2.2 lv).bind λuG=>some (decide (0<uG)) else some false:Option (Bool)).bind λuH=>if uH then (mq list uA.2.2.2.2 lv).bind λuC=>(lL list (w64 (uA.2.2.2.2+1)) (w64 (lv+1))).bind λuE=>some (.inl (uC,0,(mkS []),([(⟨uA.1,uA.2.1,uA.2.2.1,uA.2.2.2.1⟩:kK),uE.1]:List kK),uE.2)) else some (.inr (uA.1,uA.2.1,uA.2.2.1,uA.2.2.2.1,uA.2.2.2.2)):Option ((Int × Int × Str × (List kK) × Int) ⊕ (Int × Int × Str × (List kK) × Int)))) (x.op,x.n_,x.name,x.kids,(n:Int))=some (e.op,e.n_,e.name,e.kids,((m:Nat):Int))
 | .A ws ks r=>∀ n,AtW list n ws→∃ m,AtW list m r∧n<m∧rJ list (n:Int)=some (ks,((m:Nat):Int))
 | .M acc ws ks r=>∀ n,AtW list n ws→∀ q acc0 e,acc=acc0++[e]→acc.length≤n→lL list q 1=some (e,(n:Int))→∃ m,AtW list m r∧n<m∧lH (λ(uF:Int × (List kK))=>((lL list uF.1 1).bind λuB=>(lD uF.2 ([uB.1]:List kK)).bind λuD=>(if decide (uB.2<0) then some true else (mC list uB.2 (mkS [41])).bind λuC=>some uC:Option (Bool)).bind λuI=>if uI then (oe uB.2).bind λuJ=>some (.inr (uD,w64 (uB.2+uJ))) else (mC list uB.2 (mkS [44])).bind λuK=>if !(uK) then some (.inr (uD,-1)) else some (.inl (w64 (uB.2+1),uD)):Option ((Int × (List kK)) ⊕ ((List kK) × Int)))) (q,acc0)=some (ks,((m:Nat):Int))
theorem wH {list:List kJ} (hlen:list.length≤1000) (hv:∀ w∈list,oZ w=true) {j:Job} (h:Rd j):bt6 list j:=by
 have hin:∀ {n w ws},AtW list n (w::ws)→oZ w=true:=λ{n w ws} ha=>hv w (List.mem_of_mem_drop (by rw [ha.1];simp))
 have hne:∀ {w:kJ} {c:UInt8} {t:Str},oZ w=true→w.kind≠3→t.b=[c]→c∈rO→w.text≠t:=λ{w c t} h1 h2 h3 h4 e=>h2 (tg h1 (by rw [e];exact h3) h4)
 induction h<;>simp only [bt6] at *
 case neg w ws e r hw h ih =>
  intro n ha
  obtain ⟨h1,h2,h3⟩:=mu ha
  obtain ⟨m,g1,g2,g3⟩:=ih (n+1) h3
  rw [rf] at g3
  exact ⟨m,g1,by omega,by rw [rf,oU hlen ha,if_pos hw,g3];rfl⟩
 case at_ w ws e r hw h ih =>
  intro n ha
  obtain ⟨h1,h2,h3⟩:=mu ha
  obtain ⟨m,g1,g2,g3⟩:=ih (n+1) h3
  rw [rf] at g3
  exact ⟨m,g1,by omega,by rw [rf,oU hlen ha,if_neg (by rw [hw];decide),if_pos hw,g3];rfl⟩
 case par w ws e v r hw h hv2 ih =>
  intro n ha
  obtain ⟨h1,h2,h3⟩:=mu ha
  obtain ⟨m,g1,g2,g3⟩:=ih (n+1) h3
  obtain ⟨k1,k2,k3⟩:=mu g1
  refine ⟨m+1,k3,by omega,?_⟩
  have e1:decide ((m:Int)<0)=false:=by simp
  have e2:isT (v::r) (mkS [41])=true:=by simp [isT,hv2]
  rw [rf,oU hlen ha,if_neg (by rw [hw];decide),if_neg (by rw [hw];decide),if_pos hw,g3,obS]
  dsimp only
  rw [e1,y8 g1,e2,we (by omega)]
  rfl
 case num w r hw =>
  intro n ha
  obtain ⟨h1,h2,h3⟩:=mu ha
  have hk:w.kind≠3:=by omega
  exact ⟨n+1,h3,by omega,by rw [rf,oU hlen ha,if_neg (hne (hin ha) hk rfl (by decide)),if_neg (hne (hin ha) hk rfl (by decide)),if_neg (hne (hin ha) hk rfl (by decide)),if_pos hw]⟩
 case var w r hw ht =>
  intro n ha
  obtain ⟨h1,h2,h3⟩:=mu ha
  have hk:w.kind≠3:=by omega
  exact ⟨n+1,h3,by omega,by rw [rf,oU hlen ha,if_neg (hne (hin ha) hk rfl (by decide)),if_neg (hne (hin ha) hk rfl (by decide)),if_neg (hne (hin ha) hk rfl (by decide)),if_neg (by omega),if_neg (by omega),if_pos ht]⟩
 case call w v ws ks r hw ht h ih =>
  intro n ha
  obtain ⟨h1,h2,h3⟩:=mu ha
  obtain ⟨k1,k2,k3⟩:=mu h3
  obtain ⟨m,g1,g2,g3⟩:=ih (n+2) k3
  have hk:w.kind≠3:=by omega
  exact ⟨m,g1,by omega,by rw [rf,oU hlen ha,if_neg (hne (hin ha) hk rfl (by decide)),if_neg (hne (hin ha) hk rfl (by decide)),if_neg (hne (hin ha) hk rfl (by decide)),if_neg (by omega),if_neg (by omega),if_neg (by simp [isT,ht]),g3];rfl⟩
 case up lv ws e ws' e' r hl h1 h2 ih1 ih2 =>
  intro n ha
  obtain ⟨m,g1,g2,g3⟩:=ih1 n ha
  obtain ⟨k,k1,k2,k3⟩:=ih2 hl m g1
  exact ⟨k,k1,by omega,by rw [ah7 hl,g3,obS,k3,obS];dsimp only;rw [wY]⟩
 case stop lv e ws ho =>
  intro hl n ha
  exact ⟨n,ha,Nat.le_refl _,bc8 ha hl ho⟩
 case step lv e w ws f ws' e' r ho h1 h2 ih1 ih2 =>
  intro hl n ha
  obtain ⟨_,_,h3⟩:=mu ha
  obtain ⟨m,g1,g2,g3⟩:=ih1 (n+1) h3
  obtain ⟨k,k1,k2,k3⟩:=ih2 hl m g1
  exact ⟨k,k1,by omega,by rw [ab2 hlen ha hl ho g3,wY];exact k3⟩
 case done v r hv2 =>
  intro n ha
  obtain ⟨_,_,h3⟩:=mu ha
  exact ⟨n+1,h3,by omega,by rw [zL hlen ha,if_pos (by simp [isT,hv2])]⟩
 case first ws e ws' ks r ht h1 h2 ih1 ih2 =>
  intro n ha
  obtain ⟨m,g1,g2,g3⟩:=ih1 n ha
  obtain ⟨k,k1,k2,k3⟩:=ih2 m g1 n [] e rfl (by simp;omega) g3
  exact ⟨k,k1,by omega,by rw [zL hlen ha,ht];exact k3⟩
 case last acc v r hv2 =>
  intro n ha q acc0 e he hle hr
  obtain ⟨h1,_,h3⟩:=mu ha
  refine ⟨n+1,h3,by omega,?_⟩
  rw [he] at hle ⊢
  simp at hle
  rw [yO hlen (by omega) ha hr,if_pos (by simp [isT,hv2])]
 case more acc v ws e ws' ks r hv2 h1 h2 ih1 ih2 =>
  intro n ha q acc0 e0 he hle hr
  obtain ⟨h1,_,h3⟩:=mu ha
  obtain ⟨m,g1,g2,g3⟩:=ih1 (n+1) h3
  obtain ⟨k,k1,k2,k3⟩:=ih2 m g1 ((n+1:Nat):Int) acc e rfl (by simp;omega) g3
  refine ⟨k,k1,by omega,?_⟩
  have hle2:=hle
  rw [he] at hle2
  simp at hle2
  rw [yO hlen (by omega) ha hr,if_neg (by simp [isT,hv2];try decide),if_pos (by simp [isT,hv2]),← he]
  exact k3
end Prg
end Go.Wk
namespace Go.Wk
open Go
namespace Prg
set_option maxRecDepth 10000
def vW (ws:List kJ):Prop:=∀ w∈ws,oZ w=true
theorem oH {w:kJ} {ws:List kJ} (h:vW (w::ws)):vW ws:=λx hx=>h x (by simp [hx])
theorem qM {w:kJ} {ws:List kJ} (h:vW (w::ws)):oZ w=true:=h w (by simp)
def isS (w:kJ) (t:Str):Bool:=decide (w.kind=3)&&decide (w.text=t)
theorem ao5 {w:kJ} (h:oZ w=true) {t:Str} {c:UInt8} (ht:t.b=[c]) (hc:c∈rO):(decide (w.kind=3)&&decide (w.text=t))=decide (w.text=t):=by
 by_cases h2:w.text=t
 ·have := tg h (by rw [h2]; exact ht) hc
  simp [h2,this]
 ·simp [h2]
theorem rV (r:kM):kQ r 5=lC r:=by
 rw [kQ,if_pos (by decide)]
 cases lC r<;>rfl
theorem be4 {r:kM} {lv:Int} (hl:lv=1∨lv=2∨lv=3∨lv=4) {x:kK} {ws:List kJ} {b:Bool} {y:kK × kM} (h1:kQ r (lv+1)=some (x,⟨ws,b⟩))
  (h2:lH (λ(uA:(List kJ) × Bool × Int × Int × Str × (List kK))=>(if !(uA.2.1) then ((qk (λ(uB:Int × k9) (uH:Int)=>((if decide (uB.2.level=lv) then (lI (⟨uA.1,uA.2.1⟩:kM)).bind λuE=>(kZ uB.2.sign).bind λuF=>some (decide (uE.kind=uF.kind)&&decide (uE.text=uF.text)) else some false:Option (Bool)).bind λuI=>(if uI then some uB.1 else some uH:Option (Int)).bind λuJ=>some uJ:Option (Int)).bind λuK=>some uK) (kO:ni k9).es 0).bind (λuL=>some uL):Option (Int)).bind λuG=>if decide (uG=0) then some (.inr (.inl ((⟨uA.2.2.1,uA.2.2.2.1,uA.2.2.2.2.1,uA.2.2.2.2.2⟩:kK),(⟨uA.1,uA.2.1⟩:kM)))) else (ku (⟨uA.1,uA.2.1⟩:kM)).bind λuM=>((kQ uM.2 (w64 (lv+1))).bind λuC=>some (uC.2.list,uC.2.bad,([(⟨uA.2.2.1,uA.2.2.2.1,uA.2.2.2.2.1,uA.2.2.2.2.2⟩:kK),uC.1]:List kK)):Option ((List kJ) × Bool × (List kK))).bind λuD=>some (.inl (uD.1,uD.2.1,uG,0,(mkS []),uD.2.2)) else some (.inr (.inr (uA.2.2.1,uA.2.2.2.1,uA.2.2.2.2.1,uA.2.2.2.2.2,uA.1,uA.2.1))):Option (((List kJ) × Bool × Int × Int × Str × (List kK)) ⊕ ((kK × kM) ⊕ (Int × Int × Str × (List kK) × (List kJ) × Bool))))) (ws,b,x.op,x.n_,x.name,x.kids)=some (.inl y)):kQ r lv=some y:=by
 have e:w64 (lv+1)=lv+1:=lV (by omega) (by omega)
 have e2:decide (lv=5)=false:=by simp;omega
 rw [e] at h2
 rw [kQ,e2]
 simp only [Bool.false_eq_true,if_false,e,h1,obS,h2]
 rfl
theorem zk {r:kM} {lv:Int} (hl:lv=1∨lv=2∨lv=3∨lv=4) {x:kK} {ws ws':List kJ} {b b':Bool} {op n_:Int} {nm:Str} {ks:List kK} (h1:kQ r (lv+1)=some (x,⟨ws,b⟩))
  (h2:lH (λ(uA:(List kJ) × Bool × Int × Int × Str × (List kK))=>(if !(uA.2.1) then ((qk (λ(uB:Int × k9) (uH:Int)=>((if decide (uB.2.level=lv) then (lI (⟨uA.1,uA.2.1⟩:kM)).bind λuE=>(kZ uB.2.sign).bind λuF=>some (decide (uE.kind=uF.kind)&&decide (uE.text=uF.text)) else some false:Option (Bool)).bind λuI=>(if uI then some uB.1 else some uH:Option (Int)).bind λuJ=>some uJ:Option (Int)).bind λuK=>some uK) (kO:ni k9).es 0).bind (λuL=>some uL):Option (Int)).bind λuG=>if decide (uG=0) then some (.inr (.inl ((⟨uA.2.2.1,uA.2.2.2.1,uA.2.2.2.2.1,uA.2.2.2.2.2⟩:kK),(⟨uA.1,uA.2.1⟩:kM)))) else (ku (⟨uA.1,uA.2.1⟩:kM)).bind λuM=>((kQ uM.2 (w64 (lv+1))).bind λuC=>some (uC.2.list,uC.2.bad,([(⟨uA.2.2.1,uA.2.2.2.1,uA.2.2.2.2.1,uA.2.2.2.2.2⟩:kK),uC.1]:List kK)):Option ((List kJ) × Bool × (List kK))).bind λuD=>some (.inl (uD.1,uD.2.1,uG,0,(mkS []),uD.2.2)) else some (.inr (.inr (uA.2.2.1,uA.2.2.2.1,uA.2.2.2.2.1,uA.2.2.2.2.2,uA.1,uA.2.1))):Option (((List kJ) × Bool × Int × Int × Str × (List kK)) ⊕ ((kK × kM) ⊕ (Int × Int × Str × (List kK) × (List kJ) × Bool))))) (ws,b,x.op,x.n_,x.name,x.kids)=some (.inr (op,n_,nm,ks,ws',b'))):kQ r lv=some (⟨op,n_,nm,ks⟩,⟨ws',b'⟩):=by
 have e:w64 (lv+1)=lv+1:=lV (by omega) (by omega)
 have e2:decide (lv=5)=false:=by simp;omega
 rw [e] at h2
 rw [kQ,e2]
 simp only [Bool.false_eq_true,if_false,e,h1,obS,h2]
 rfl
theorem ag6 {lv:Int} {ws:List kJ} {op n_:Int} {nm:Str} {ks:List kK}:lH (λ(uA:(List kJ) × Bool × Int × Int × Str × (List kK))=>(if !(uA.2.1) then ((qk (λ(uB:Int × k9) (uH:Int)=>((if decide (uB.2.level=lv) then (lI (⟨uA.1,uA.2.1⟩:kM)).bind λuE=>(kZ uB.2.sign).bind λuF=>some (decide (uE.kind=uF.kind)&&decide (uE.text=uF.text)) else some false:Option (Bool)).bind λuI=>(if uI then some uB.1 else some uH:Option (Int)).bind λuJ=>some uJ:Option (Int)).bind λuK=>some uK) (kO:ni k9).es 0).bind (λuL=>some uL):Option (Int)).bind λuG=>if decide (uG=0) then some (.inr (.inl ((⟨uA.2.2.1,uA.2.2.2.1,uA.2.2.2.2.1,uA.2.2.2.2.2⟩:kK),(⟨uA.1,uA.2.1⟩:kM)))) else (ku (⟨uA.1,uA.2.1⟩:kM)).bind λuM=>((kQ uM.2 (w64 (lv+1))).bind λuC=>some (uC.2.list,uC.2.bad,([(⟨uA.2.2.1,uA.2.2.2.1,uA.2.2.2.2.1,uA.2.2.2.2.2⟩:kK),uC.1]:List kK)):Option ((List kJ) × Bool × (List kK))).bind λuD=>some (.inl (uD.1,uD.2.1,uG,0,(mkS []),uD.2.2)) else some (.inr (.inr (uA.2.2.1,uA.2.2.2.1,uA.2.2.2.2.1,uA.2.2.2.2.2,uA.1,uA.2.1))):Option (((List kJ) × Bool × Int × Int × Str × (List kK)) ⊕ ((kK × kM) ⊕ (Int × Int × Str × (List kK) × (List kJ) × Bool))))) (ws,true,op,n_,nm,ks)=some (.inr (op,n_,nm,ks,ws,true)):=lJ rfl
theorem bf8 {lv:Int} (hl:lv=1∨lv=2∨lv=3∨lv=4) {ws:List kJ} (hw:vW ws) (ho:opT lv ws=0) {op n_:Int} {nm:Str} {ks:List kK} :
  lH (λ(uA:(List kJ) × Bool × Int × Int × Str × (List kK))=>(if !(uA.2.1) then ((qk (λ(uB:Int × k9) (uH:Int)=>((if decide (uB.2.level=lv) then (lI (⟨uA.1,uA.2.1⟩:kM)).bind λuE=>(kZ uB.2.sign).bind λuF=>some (decide (uE.kind=uF.kind)&&decide (uE.text=uF.text)) else some false:Option (Bool)).bind λuI=>(if uI then some uB.1 else some uH:Option (Int)).bind λuJ=>some uJ:Option (Int)).bind λuK=>some uK) (kO:ni k9).es 0).bind (λuL=>some uL):Option (Int)).bind λuG=>if decide (uG=0) then some (.inr (.inl ((⟨uA.2.2.1,uA.2.2.2.1,uA.2.2.2.2.1,uA.2.2.2.2.2⟩:kK),(⟨uA.1,uA.2.1⟩:kM)))) else (ku (⟨uA.1,uA.2.1⟩:kM)).bind λuM=>((kQ uM.2 (w64 (lv+1))).bind λuC=>some (uC.2.list,uC.2.bad,([(⟨uA.2.2.1,uA.2.2.2.1,uA.2.2.2.2.1,uA.2.2.2.2.2⟩:kK),uC.1]:List kK)):Option ((List kJ) × Bool × (List kK))).bind λuD=>some (.inl (uD.1,uD.2.1,uG,0,(mkS []),uD.2.2)) else some (.inr (.inr (uA.2.2.1,uA.2.2.2.1,uA.2.2.2.2.1,uA.2.2.2.2.2,uA.1,uA.2.1))):Option (((List kJ) × Bool × Int × Int × Str × (List kK)) ⊕ ((kK × kM) ⊕ (Int × Int × Str × (List kK) × (List kJ) × Bool))))) (ws,false,op,n_,nm,ks)=some (.inl (⟨op,n_,nm,ks⟩,⟨ws,false⟩)):=by
 refine lJ ?_
 dsimp only
 rw [if_pos (show (!false)=true from rfl)]
 refine ko (ko (bg2 ws hw lv hl λp s=>?_) rfl) ?_
 ·simp only [xW,kZ,obS]
  unfold qE
  by_cases c1:p.2.level=lv<;>by_cases c2:(pkW ws).kind=3<;>by_cases c3:(pkW ws).text=p.2.sign<;>simp [c1,c2,c3]
 ·rw [ho];rfl
theorem zN {lv:Int} (hl:lv=1∨lv=2∨lv=3∨lv=4) {w:kJ} {ws:List kJ} (hw:vW (w::ws)) (ho:opW lv w≠0) {op n_:Int} {nm:Str} {ks:List kK} {f:kK} {ws':List kJ} {b:Bool}
  (hr:kQ ⟨ws,false⟩ (lv+1)=some (f,⟨ws',b⟩)) :
  lH (λ(uA:(List kJ) × Bool × Int × Int × Str × (List kK))=>(if !(uA.2.1) then ((qk (λ(uB:Int × k9) (uH:Int)=>((if decide (uB.2.level=lv) then (lI (⟨uA.1,uA.2.1⟩:kM)).bind λuE=>(kZ uB.2.sign).bind λuF=>some (decide (uE.kind=uF.kind)&&decide (uE.text=uF.text)) else some false:Option (Bool)).bind λuI=>(if uI then some uB.1 else some uH:Option (Int)).bind λuJ=>some uJ:Option (Int)).bind λuK=>some uK) (kO:ni k9).es 0).bind (λuL=>some uL):Option (Int)).bind λuG=>if decide (uG=0) then some (.inr (.inl ((⟨uA.2.2.1,uA.2.2.2.1,uA.2.2.2.2.1,uA.2.2.2.2.2⟩:kK),(⟨uA.1,uA.2.1⟩:kM)))) else (ku (⟨uA.1,uA.2.1⟩:kM)).bind λuM=>((kQ uM.2 (w64 (lv+1))).bind λuC=>some (uC.2.list,uC.2.bad,([(⟨uA.2.2.1,uA.2.2.2.1,uA.2.2.2.2.1,uA.2.2.2.2.2⟩:kK),uC.1]:List kK)):Option ((List kJ) × Bool × (List kK))).bind λuD=>some (.inl (uD.1,uD.2.1,uG,0,(mkS []),uD.2.2)) else some (.inr (.inr (uA.2.2.1,uA.2.2.2.1,uA.2.2.2.2.1,uA.2.2.2.2.2,uA.1,uA.2.1))):Option (((List kJ) × Bool × Int × Int × Str × (List kK)) ⊕ ((kK × kM) ⊕ (Int × Int × Str × (List kK) × (List kJ) × Bool))))) (w::ws,false,op,n_,nm,ks)=lH (λ(uA:(List kJ) × Bool × Int × Int × Str × (List kK))=>(if !(uA.2.1) then ((qk (λ(uB:Int × k9) (uH:Int)=>((if decide (uB.2.level=lv) then (lI (⟨uA.1,uA.2.1⟩:kM)).bind λuE=>(kZ uB.2.sign).bind λuF=>some (decide (uE.kind=uF.kind)&&decide (uE.text=uF.text)) else some false:Option (Bool)).bind λuI=>(if uI then some uB.1 else some uH:Option (Int)).bind λuJ=>some uJ:Option (Int)).bind λuK=>some uK) (kO:ni k9).es 0).bind (λuL=>some uL):Option (Int)).bind λuG=>if decide (uG=0) then some (.inr (.inl ((⟨uA.2.2.1,uA.2.2.2.1,uA.2.2.2.2.1,uA.2.2.2.2.2⟩:kK),(⟨uA.1,uA.2.1⟩:kM)))) else (ku (⟨uA.1,uA.2.1⟩:kM)).bind λuM=>((kQ uM.2 (w64 (lv+1))).bind λuC=>some (uC.2.list,uC.2.bad,([(⟨uA.2.2.1,uA.2.2.2.1,uA.2.2.2.2.1,uA.2.2.2.2.2⟩:kK),uC.1]:List kK)):Option ((List kJ) × Bool × (List kK))).bind λuD=>some (.inl (uD.1,uD.2.1,uG,0,(mkS []),uD.2.2)) else some (.inr (.inr (uA.2.2.1,uA.2.2.2.1,uA.2.2.2.2.1,uA.2.2.2.2.2,uA.1,uA.2.1))):Option (((List kJ) × Bool × Int × Int × Str × (List kK)) ⊕ ((kK × kM) ⊕ (Int × Int × Str × (List kK) × (List kJ) × Bool))))) (ws',b,opW lv w,0,mkS [],[⟨op,n_,nm,ks⟩,f]):=by
 refine mQ ?_
 dsimp only
 rw [if_pos (show (!false)=true from rfl)]
 refine ko (ko (bg2 (w::ws) hw lv hl λp s=>?_) rfl) ?_
 ·simp only [xW,kZ,obS]
  unfold qE
  by_cases c1:p.2.level=lv<;>by_cases c2:(pkW (w::ws)).kind=3<;>by_cases c3:(pkW (w::ws)).text=p.2.sign<;>simp [c1,c2,c3]
 ·have e2:decide (opT lv (w::ws)=0)=false:=decide_eq_false ho
  have e:w64 (lv+1)=lv+1:=lV (by omega) (by omega)
  rw [e2,sS,e,obS,hr]
  rfl
theorem ao1:lC ⟨[],false⟩=some (⟨0,0,mkS [],[]⟩,⟨[],true⟩):=by
 rw [lC,uz];rfl
theorem ao3 (ws:List kJ):∃ ws',lC ⟨ws,true⟩=some (⟨0,0,mkS [],[]⟩,⟨ws',true⟩):=by
 cases ws with
 | nil=>exact ⟨[],by rw [lC,uz];rfl⟩
 | cons w ws=>exact ⟨ws,by rw [lC,sS];rfl⟩
theorem oC {w:kJ} {ws:List kJ} (hw:vW (w::ws)):lC ⟨w::ws,false⟩ =
  if w.text=mkS [33] then (lC ⟨ws,false⟩).bind λr=>some (⟨11,0,mkS [],[r.1]⟩,r.2)
  else if w.text=mkS [64] then (lC ⟨ws,false⟩).bind λr=>some (⟨12,0,mkS [],[r.1]⟩,r.2)
  else if w.text=mkS [40] then (kQ ⟨ws,false⟩ 1).bind λr=>(kP r.2 3 (mkS [41])).bind λq=>some (r.1,q)
  else if w.kind=2 then some (⟨1,ac1 w,mkS [],[]⟩,⟨ws,false⟩)
  else if w.kind≠1 then some (⟨0,0,mkS [],[]⟩,⟨ws,true⟩)
  else if isT ws (mkS [40])=false then some (⟨2,0,w.text,[]⟩,⟨ws,false⟩)
  else (lH (λ(uA:(List kJ) × Bool × (List kK))=>((if !(uA.2.1) then (kV (⟨uA.1,uA.2.1⟩:kM) 3 (mkS [41])).bind λuC=>some (uC.2.list,uC.2.bad,!(uC.1)) else some (uA.1,uA.2.1,false):Option ((List kJ) × Bool × Bool)).bind λuB=>if uB.2.2 then (if decide (0<((uA.2.2.length:Int))) then (kP (⟨uB.1,uB.2.1⟩:kM) 3 (mkS [44])).bind λuE=>some (uE.list,uE.bad) else some (uB.1,uB.2.1):Option ((List kJ) × Bool)).bind λuF=>(kQ (⟨uF.1,uF.2⟩:kM) 1).bind λuD=>(lD uA.2.2 ([uD.1]:List kK)).bind λuG=>some (.inl (uD.2.list,uD.2.bad,uG)) else some (.inr (uA.2.2,uB.1,uB.2.1)):Option (((List kJ) × Bool × (List kK)) ⊕ ((List kK) × (List kJ) × Bool)))) (ws.tail,false,[])).bind λs=>some (⟨13,0,w.text,s.1⟩,⟨s.2.1,s.2.2⟩):=by
 have h0:=qM hw
 have a1:=ao5 h0 (t:=mkS [33]) rfl (by decide)
 have a2:=ao5 h0 (t:=mkS [64]) rfl (by decide)
 have a3:=ao5 h0 (t:=mkS [40]) rfl (by decide)
 rw [lC,sS]
 simp only [obS,Bool.false_eq_true,if_false,kZ,a1,a2,a3,ax2,pn,ud (oH hw) (t:=mkS [40]) rfl (by decide),bb7,decide_eq_true_eq]
 by_cases c1:w.text=mkS [33]
 ·simp only [c1,if_true]
 by_cases c2:w.text=mkS [64]
 ·simp only [c1,c2,if_true,if_false]
 by_cases c3:w.text=mkS [40]
 ·simp only [c1,c2,c3,if_true,if_false]
 by_cases c4:w.kind=2
 ·simp only [c1,c2,c3,c4,if_true,if_false]
 by_cases c5:w.kind=1
 ·cases c6:isT ws (mkS [40])<;>simp [c1,c2,c3,c5]
 ·simp [c1,c2,c3,c4,c5]
theorem vi (lv:Int) (hl:lv=1∨lv=2∨lv=3∨lv=4∨lv=5) (ws:List kJ):∃ e ws',kQ ⟨ws,true⟩ lv=some (e,⟨ws',true⟩):=by
 have h5:∃ e ws',kQ ⟨ws,true⟩ 5=some (e,⟨ws',true⟩):=by
  obtain ⟨ws',h⟩:=ao3 ws
  exact ⟨_,ws',by rw [rV];exact h⟩
 have hs:∀ lv:Int,(lv=1∨lv=2∨lv=3∨lv=4)→(∃ e ws',kQ ⟨ws,true⟩ (lv+1)=some (e,⟨ws',true⟩))→∃ e ws',kQ ⟨ws,true⟩ lv=some (e,⟨ws',true⟩):=by
  rintro lv hl ⟨e,ws',h⟩
  exact ⟨_,_,zk hl h ag6⟩
 have h4:=hs 4 (by omega) h5
 have h3:=hs 3 (by omega) h4
 have h2:=hs 2 (by omega) h3
 have h1:=hs 1 (by omega) h2
 rcases hl with rfl | rfl | rfl | rfl | rfl<;>assumption
theorem ag2 {ws:List kJ} {ks:List kK}:lH (λ(uA:(List kJ) × Bool × (List kK))=>((if !(uA.2.1) then (kV (⟨uA.1,uA.2.1⟩:kM) 3 (mkS [41])).bind λuC=>some (uC.2.list,uC.2.bad,!(uC.1)) else some (uA.1,uA.2.1,false):Option ((List kJ) × Bool × Bool)).bind λuB=>if uB.2.2 then (if decide (0<((uA.2.2.length:Int))) then (kP (⟨uB.1,uB.2.1⟩:kM) 3 (mkS [44])).bind λuE=>some (uE.list,uE.bad) else some (uB.1,uB.2.1):Option ((List kJ) × Bool)).bind λuF=>(kQ (⟨uF.1,uF.2⟩:kM) 1).bind λuD=>(lD uA.2.2 ([uD.1]:List kK)).bind λuG=>some (.inl (uD.2.list,uD.2.bad,uG)) else some (.inr (uA.2.2,uB.1,uB.2.1)):Option (((List kJ) × Bool × (List kK)) ⊕ ((List kK) × (List kJ) × Bool)))) (ws,true,ks)=some (ks,ws,true):=lJ rfl
theorem aw1 {v:kJ} {ws:List kJ} (hw:vW (v::ws)) (hv:v.text=mkS [41]) {ks:List kK}:lH (λ(uA:(List kJ) × Bool × (List kK))=>((if !(uA.2.1) then (kV (⟨uA.1,uA.2.1⟩:kM) 3 (mkS [41])).bind λuC=>some (uC.2.list,uC.2.bad,!(uC.1)) else some (uA.1,uA.2.1,false):Option ((List kJ) × Bool × Bool)).bind λuB=>if uB.2.2 then (if decide (0<((uA.2.2.length:Int))) then (kP (⟨uB.1,uB.2.1⟩:kM) 3 (mkS [44])).bind λuE=>some (uE.list,uE.bad) else some (uB.1,uB.2.1):Option ((List kJ) × Bool)).bind λuF=>(kQ (⟨uF.1,uF.2⟩:kM) 1).bind λuD=>(lD uA.2.2 ([uD.1]:List kK)).bind λuG=>some (.inl (uD.2.list,uD.2.bad,uG)) else some (.inr (uA.2.2,uB.1,uB.2.1)):Option (((List kJ) × Bool × (List kK)) ⊕ ((List kK) × (List kJ) × Bool)))) (v::ws,false,ks)=some (ks,ws,false):=by
 refine lJ ?_
 have e:isT (v::ws) (mkS [41])=true:=by simp [isT,hv]
 simp only [pn,ud hw (t:=mkS [41]) rfl (by decide),e]
 rfl
theorem xj {ws:List kJ} (hw:vW ws) (ht:isT ws (mkS [41])=false) {e:kK} {ws':List kJ} {b:Bool} (hr:kQ ⟨ws,false⟩ 1=some (e,⟨ws',b⟩)) :
  lH (λ(uA:(List kJ) × Bool × (List kK))=>((if !(uA.2.1) then (kV (⟨uA.1,uA.2.1⟩:kM) 3 (mkS [41])).bind λuC=>some (uC.2.list,uC.2.bad,!(uC.1)) else some (uA.1,uA.2.1,false):Option ((List kJ) × Bool × Bool)).bind λuB=>if uB.2.2 then (if decide (0<((uA.2.2.length:Int))) then (kP (⟨uB.1,uB.2.1⟩:kM) 3 (mkS [44])).bind λuE=>some (uE.list,uE.bad) else some (uB.1,uB.2.1):Option ((List kJ) × Bool)).bind λuF=>(kQ (⟨uF.1,uF.2⟩:kM) 1).bind λuD=>(lD uA.2.2 ([uD.1]:List kK)).bind λuG=>some (.inl (uD.2.list,uD.2.bad,uG)) else some (.inr (uA.2.2,uB.1,uB.2.1)):Option (((List kJ) × Bool × (List kK)) ⊕ ((List kK) × (List kJ) × Bool)))) (ws,false,[])=lH (λ(uA:(List kJ) × Bool × (List kK))=>((if !(uA.2.1) then (kV (⟨uA.1,uA.2.1⟩:kM) 3 (mkS [41])).bind λuC=>some (uC.2.list,uC.2.bad,!(uC.1)) else some (uA.1,uA.2.1,false):Option ((List kJ) × Bool × Bool)).bind λuB=>if uB.2.2 then (if decide (0<((uA.2.2.length:Int))) then (kP (⟨uB.1,uB.2.1⟩:kM) 3 (mkS [44])).bind λuE=>some (uE.list,uE.bad) else some (uB.1,uB.2.1):Option ((List kJ) × Bool)).bind λuF=>(kQ (⟨uF.1,uF.2⟩:kM) 1).bind λuD=>(lD uA.2.2 ([uD.1]:List kK)).bind λuG=>some (.inl (uD.2.list,uD.2.bad,uG)) else some (.inr (uA.2.2,uB.1,uB.2.1)):Option (((List kJ) × Bool × (List kK)) ⊕ ((List kK) × (List kJ) × Bool)))) (ws',b,[e]):=by
 refine mQ ?_
 simp only [pn,ud hw (t:=mkS [41]) rfl (by decide),ht]
 have e0:decide (0<(([]:List kK).length:Int))=false:=rfl
 simp only [Bool.not_false,if_true,obS,e0,Bool.false_eq_true,if_false,hr]
 rfl
theorem ab1 {acc:List kK} (h0:acc≠[]) (hal:acc.length≤1000) {v:kJ} {ws:List kJ} (hw:vW (v::ws)) (hv:v.text=mkS [44]) {e:kK} {ws':List kJ} {b:Bool} (hr:kQ ⟨ws,false⟩ 1=some (e,⟨ws',b⟩)) :
  lH (λ(uA:(List kJ) × Bool × (List kK))=>((if !(uA.2.1) then (kV (⟨uA.1,uA.2.1⟩:kM) 3 (mkS [41])).bind λuC=>some (uC.2.list,uC.2.bad,!(uC.1)) else some (uA.1,uA.2.1,false):Option ((List kJ) × Bool × Bool)).bind λuB=>if uB.2.2 then (if decide (0<((uA.2.2.length:Int))) then (kP (⟨uB.1,uB.2.1⟩:kM) 3 (mkS [44])).bind λuE=>some (uE.list,uE.bad) else some (uB.1,uB.2.1):Option ((List kJ) × Bool)).bind λuF=>(kQ (⟨uF.1,uF.2⟩:kM) 1).bind λuD=>(lD uA.2.2 ([uD.1]:List kK)).bind λuG=>some (.inl (uD.2.list,uD.2.bad,uG)) else some (.inr (uA.2.2,uB.1,uB.2.1)):Option (((List kJ) × Bool × (List kK)) ⊕ ((List kK) × (List kJ) × Bool)))) (v::ws,false,acc)=lH (λ(uA:(List kJ) × Bool × (List kK))=>((if !(uA.2.1) then (kV (⟨uA.1,uA.2.1⟩:kM) 3 (mkS [41])).bind λuC=>some (uC.2.list,uC.2.bad,!(uC.1)) else some (uA.1,uA.2.1,false):Option ((List kJ) × Bool × Bool)).bind λuB=>if uB.2.2 then (if decide (0<((uA.2.2.length:Int))) then (kP (⟨uB.1,uB.2.1⟩:kM) 3 (mkS [44])).bind λuE=>some (uE.list,uE.bad) else some (uB.1,uB.2.1):Option ((List kJ) × Bool)).bind λuF=>(kQ (⟨uF.1,uF.2⟩:kM) 1).bind λuD=>(lD uA.2.2 ([uD.1]:List kK)).bind λuG=>some (.inl (uD.2.list,uD.2.bad,uG)) else some (.inr (uA.2.2,uB.1,uB.2.1)):Option (((List kJ) × Bool × (List kK)) ⊕ ((List kK) × (List kJ) × Bool)))) (ws',b,acc++[e]):=by
 refine mQ ?_
 have e1:isT (v::ws) (mkS [41])=false:=by simp [isT,hv];decide
 have e2:isT (v::ws) (mkS [44])=true:=by simp [isT,hv]
 have e0:decide (0<(acc.length:Int))=true:=by have:=List.length_pos_iff.2 h0;simp;omega
 simp only [pn,ud hw (t:=mkS [41]) rfl (by decide),tq,ud hw (t:=mkS [44]) rfl (by decide),e1,e2,Bool.not_false,if_true,obS,e0,Bool.false_eq_true,if_false,List.tail_cons,hr,nC (show acc.length+[e].length≤2147483648 by simp;omega)]
theorem ai6 {acc:List kK} (h0:acc≠[]) (hal:acc.length≤1000) {ws:List kJ} (hw:vW ws) (h1:isT ws (mkS [41])=false) (h2:isT ws (mkS [44])=false) :
  ∃ ks ws',lH (λ(uA:(List kJ) × Bool × (List kK))=>((if !(uA.2.1) then (kV (⟨uA.1,uA.2.1⟩:kM) 3 (mkS [41])).bind λuC=>some (uC.2.list,uC.2.bad,!(uC.1)) else some (uA.1,uA.2.1,false):Option ((List kJ) × Bool × Bool)).bind λuB=>if uB.2.2 then (if decide (0<((uA.2.2.length:Int))) then (kP (⟨uB.1,uB.2.1⟩:kM) 3 (mkS [44])).bind λuE=>some (uE.list,uE.bad) else some (uB.1,uB.2.1):Option ((List kJ) × Bool)).bind λuF=>(kQ (⟨uF.1,uF.2⟩:kM) 1).bind λuD=>(lD uA.2.2 ([uD.1]:List kK)).bind λuG=>some (.inl (uD.2.list,uD.2.bad,uG)) else some (.inr (uA.2.2,uB.1,uB.2.1)):Option (((List kJ) × Bool × (List kK)) ⊕ ((List kK) × (List kJ) × Bool)))) (ws,false,acc)=some (ks,ws',true):=by
 obtain ⟨e,ws',hr⟩:=vi 1 (by omega) ws
 refine ⟨acc++[e],ws',?_⟩
 rw [mQ (s':=(ws',true,acc++[e]))]
 ·exact ag2
 have e0:decide (0<(acc.length:Int))=true:=by have:=List.length_pos_iff.2 h0;simp;omega
 simp only [pn,ud hw (t:=mkS [41]) rfl (by decide),tq,ud hw (t:=mkS [44]) rfl (by decide),h1,h2,Bool.not_false,if_true,obS,e0,Bool.false_eq_true,if_false,hr,nC (show acc.length+[e].length≤2147483648 by simp;omega)]
end Prg
end Go.Wk
namespace Go.Wk
open Go
namespace Prg
set_option maxRecDepth 10000
def bz4:Job→Prop
 | .E lv ws e r=>vW ws→ws.length≤1000→kQ ⟨ws,false⟩ lv=some (e,⟨r,false⟩)
 | .L lv x ws e r=>(lv=1∨lv=2∨lv=3∨lv=4)→vW ws→ws.length≤1000→lH (λ(uA:(List kJ) × Bool × Int × Int × Str × (List kK))=>(if !(uA.2.1) then ((qk (λ(uG:Int × k9) (uL:Int)=>((if decide (uG.2.level=lv) then (lI (⟨uA.1,uA.2.1⟩:kM)).bind λuJ=>(kZ uG.2.sign).bind λuK=>some (decide (uJ.kind=uK.kind)&&decide (uJ.text=uK.text)) else some false:Option (Bool)).bind λuM=>(if uM then some uG.1 else some uL:Option (Int)).bind λuN=>some uN:Option (Int)).bind λuO=>some uO) (kO:ni k9).es 0).bind (λuP=>some uP):Option (Int)).bind λuB=>if decide (uB=0) then some (.inr (.inl ((⟨uA.2.2.1,uA.2.2.2.1,uA.2.2.2.2.1,uA.2.2.2.2.2⟩:kK),(⟨uA.1,uA.2.1⟩:kM)))) else (ku (⟨uA.1,uA.2.1⟩:kM)).bind λuC=>((kQ uC.2 (w64 (lv+1))).bind λuH=>some (uH.2.list,uH.2.bad,([(⟨uA.2.2.1,uA.2.2.2.1,uA.2.2.2.2.1,uA.2.2.2.2.2⟩:kK),uH.1]:List kK)):Option ((List kJ) × Bool × (List kK))).bind λuD=>some (.inl (uD.1,uD.2.1,uB,0,(mkS []),uD.2.2)) else some (.inr (.inr (uA.2.2.1,uA.2.2.2.1,uA.2.2.2.2.1,uA.2.2.2.2.2,uA.1,uA.2.1))):Option (((List kJ) × Bool × Int × Int × Str × (List kK)) ⊕ ((kK × kM) ⊕ (Int × Int × Str × (List kK) × (List kJ) × Bool))))) (ws,false,x.op,x.n_,x.name,x.kids)=some (.inl (e,⟨r,false⟩))
 | .A ws ks r=>vW ws→ws.length≤1000→lH (λ(uA:(List kJ) × Bool × (List kK))=>((if !(uA.2.1) then (kV (⟨uA.1,uA.2.1⟩:kM) 3 (mkS [41])).bind λuE=>some (uE.2.list,uE.2.bad,!(uE.1)) else some (uA.1,uA.2.1,false):Option ((List kJ) × Bool × Bool)).bind λuB=>if uB.2.2 then (if decide (0<((uA.2.2.length:Int))) then (kP (⟨uB.1,uB.2.1⟩:kM) 3 (mkS [44])).bind λuF=>some (uF.list,uF.bad) else some (uB.1,uB.2.1):Option ((List kJ) × Bool)).bind λuD=>(kQ (⟨uD.1,uD.2⟩:kM) 1).bind λuC=>(lD uA.2.2 ([uC.1]:List kK)).bind λuI=>some (.inl (uC.2.list,uC.2.bad,uI)) else some (.inr (uA.2.2,uB.1,uB.2.1)):Option (((List kJ) × Bool × (List kK)) ⊕ ((List kK) × (List kJ) × Bool)))) (ws,false,[])=some (ks,r,false)
 | .M acc ws ks r=>acc≠[]→vW ws→acc.length+ws.length≤1000→lH (λ(uA:(List kJ) × Bool × (List kK))=>((if !(uA.2.1) then (kV (⟨uA.1,uA.2.1⟩:kM) 3 (mkS [41])).bind λuE=>some (uE.2.list,uE.2.bad,!(uE.1)) else some (uA.1,uA.2.1,false):Option ((List kJ) × Bool × Bool)).bind λuB=>if uB.2.2 then (if decide (0<((uA.2.2.length:Int))) then (kP (⟨uB.1,uB.2.1⟩:kM) 3 (mkS [44])).bind λuF=>some (uF.list,uF.bad) else some (uB.1,uB.2.1):Option ((List kJ) × Bool)).bind λuD=>(kQ (⟨uD.1,uD.2⟩:kM) 1).bind λuC=>(lD uA.2.2 ([uC.1]:List kK)).bind λuI=>some (.inl (uC.2.list,uC.2.bad,uI)) else some (.inr (uA.2.2,uB.1,uB.2.1)):Option (((List kJ) × Bool × (List kK)) ⊕ ((List kK) × (List kJ) × Bool)))) (ws,false,acc)=some (ks,r,false)
theorem qu {w:kJ} {c:UInt8} {t:Str} (h1:oZ w=true) (h2:w.kind≠3) (h3:t.b=[c]) (h4:c∈rO):w.text≠t:=λe=>h2 (tg h1 (by rw [e];exact h3) h4)
theorem sl {j:Job} (h:Rd j):bz4 j:=by
 induction h
 case neg w ws e r hw h ih =>
  intro ha hl
  have g:=ih (oH ha) (by simp at hl;omega)
  rw [rV] at g
  rw [rV,oC ha,if_pos hw,g];rfl
 case at_ w ws e r hw h ih =>
  intro ha hl
  have g:=ih (oH ha) (by simp at hl;omega)
  rw [rV] at g
  rw [rV,oC ha,if_neg (by rw [hw];decide),if_pos hw,g];rfl
 case par w ws e v r hw h hv2 ih =>
  intro ha hl
  have g:=ih (oH ha) (by simp at hl;omega)
  obtain ⟨s1,s2⟩:=s9 h
  have hv3:vW (v::r):=λx hx=>oH ha x (s2 x hx)
  have e2:isT (v::r) (mkS [41])=true:=by simp [isT,hv2]
  rw [rV,oC ha,if_neg (by rw [hw];decide),if_neg (by rw [hw];decide),if_pos hw,g,obS]
  dsimp only
  rw [tq,ud hv3 rfl (by decide),e2];rfl
 case num w r hw =>
  intro ha hl
  have hk:w.kind≠3:=by omega
  have h0:=qM ha
  rw [rV,oC ha,if_neg (qu h0 hk rfl (by decide)),if_neg (qu h0 hk rfl (by decide)),if_neg (qu h0 hk rfl (by decide)),if_pos hw]
 case var w r hw ht =>
  intro ha hl
  have hk:w.kind≠3:=by omega
  have h0:=qM ha
  rw [rV,oC ha,if_neg (qu h0 hk rfl (by decide)),if_neg (qu h0 hk rfl (by decide)),if_neg (qu h0 hk rfl (by decide)),if_neg (by omega),if_neg (by omega),if_pos ht]
 case call w v ws ks r hw ht h ih =>
  intro ha hl
  have hk:w.kind≠3:=by omega
  have h0:=qM ha
  have g:=ih (oH (oH ha)) (by simp at hl;omega)
  rw [rV,oC ha,if_neg (qu h0 hk rfl (by decide)),if_neg (qu h0 hk rfl (by decide)),if_neg (qu h0 hk rfl (by decide)),if_neg (by omega),if_neg (by omega),if_neg (by simp [isT,ht]),List.tail_cons,g];rfl
 case up lv ws e ws' e' r hlv h1 h2 ih1 ih2 =>
  intro ha hl
  obtain ⟨s1,s2⟩:=s9 h1
  exact be4 hlv (ih1 ha hl) (ih2 hlv (λx hx=>ha x (s2 x hx)) (by omega))
 case stop lv e ws ho =>
  intro hlv ha hl
  rw [bf8 hlv ha ho,wY]
 case step lv e w ws f ws' e' r ho h1 h2 ih1 ih2 =>
  intro hlv ha hl
  obtain ⟨s1,s2⟩:=s9 h1
  simp at hl
  rw [zN hlv ha ho (ih1 (oH ha) (by omega)),wY]
  exact ih2 hlv (λx hx=>oH ha x (s2 x hx)) (by omega)
 case done v r hv2 =>
  intro ha hl
  exact aw1 ha hv2
 case first ws e ws' ks r ht h1 h2 ih1 ih2 =>
  intro ha hl
  obtain ⟨s1,s2⟩:=s9 h1
  rw [xj ha ht (ih1 ha hl)]
  exact ih2 (by simp) (λx hx=>ha x (s2 x hx)) (by simp;omega)
 case last acc v r hv2 =>
  intro h0 ha hl
  exact aw1 ha hv2
 case more acc v ws e ws' ks r hv2 h1 h2 ih1 ih2 =>
  intro h0 ha hl
  obtain ⟨s1,s2⟩:=s9 h1
  simp at hl
  rw [ab1 h0 (by omega) ha hv2 (ih1 (oH ha) (by omega))]
  exact ih2 (by simp) (λx hx=>oH ha x (s2 x hx)) (by simp;omega)
def az9 (lv:Int) (ws:List kJ):Prop:=(∀ list n,list.length≤1000→vW list→AtW list n ws→∃ e,lL list (n:Int) lv=some (e,-1))∧∃ e ws',kQ ⟨ws,false⟩ lv=some (e,⟨ws',true⟩)
def cc0 (lv : Int) (x : kK) (ws : List kJ) : Prop := (∀ list n, list.length ≤ 1000 → vW list → AtW list n ws → ∃ op n_ nm ks, lH (fun (uA : Int × Int × Str × (List kK) × Int) => ((if decide (0 ≤ uA.2.2.2.2) then (mq list uA.2.2.2.2 lv).bind fun uJ => some (decide (0 < uJ)) else some false : Option (Bool)).bind fun uB => if uB then (mq list uA.2.2.2.2 lv).bind fun uC => (lL list (w64 (uA.2.2.2.2 + 1)) (w64 (lv + 1))).bind fun uG => some (.inl (uC, 0, (mkS []), ([(⟨uA.1, uA.2.1, uA.2.2.1, uA.2.2.2.1⟩ : kK), uG.1] : List kK), uG.2)) else some (.inr (uA.1, uA.2.1, uA.2.2.1, uA.2.2.2.1, uA.2.2.2.2)) : Option ((Int × Int × Str × (List kK) × Int) ⊕ (Int × Int × Str × (List kK) × Int)))) (x.op, x.n_, x.name, x.kids, (n : Int)) = some (op, n_, nm, ks, -1)) ∧
 ∃ op n_ nm ks ws',lH (λ(uA:(List kJ) × Bool × Int × Int × Str × (List kK))=>(if !(uA.2.1) then ((qk (λ(uD:Int × k9) (uK:Int)=>((if decide (uD.2.level=lv) then (lI (⟨uA.1,uA.2.1⟩:kM)).bind λuH=>(kZ uD.2.sign).bind λuI=>some (decide (uH.kind=uI.kind)&&decide (uH.text=uI.text)) else some false:Option (Bool)).bind λuL=>(if uL then some uD.1 else some uK:Option (Int)).bind λuM=>some uM:Option (Int)).bind λuN=>some uN) (kO:ni k9).es 0).bind (λuO=>some uO):Option (Int)).bind λuB=>if decide (uB=0) then some (.inr (.inl ((⟨uA.2.2.1,uA.2.2.2.1,uA.2.2.2.2.1,uA.2.2.2.2.2⟩:kK),(⟨uA.1,uA.2.1⟩:kM)))) else (ku (⟨uA.1,uA.2.1⟩:kM)).bind λuC=>((kQ uC.2 (w64 (lv+1))).bind λuE=>some (uE.2.list,uE.2.bad,([(⟨uA.2.2.1,uA.2.2.2.1,uA.2.2.2.2.1,uA.2.2.2.2.2⟩:kK),uE.1]:List kK)):Option ((List kJ) × Bool × (List kK))).bind λuF=>some (.inl (uF.1,uF.2.1,uB,0,(mkS []),uF.2.2)) else some (.inr (.inr (uA.2.2.1,uA.2.2.2.1,uA.2.2.2.2.1,uA.2.2.2.2.2,uA.1,uA.2.1))):Option (((List kJ) × Bool × Int × Int × Str × (List kK)) ⊕ ((kK × kM) ⊕ (Int × Int × Str × (List kK) × (List kJ) × Bool))))) (ws,false,x.op,x.n_,x.name,x.kids)=some (.inr (op,n_,nm,ks,ws',true))
def cb4 (ws:List kJ):Prop:=(∀ list n,list.length≤1000→vW list→AtW list n ws→∃ ks,rJ list (n:Int)=some (ks,-1)) ∧
 ∃ ks ws',lH (λ(uA:(List kJ) × Bool × (List kK))=>((if !(uA.2.1) then (kV (⟨uA.1,uA.2.1⟩:kM) 3 (mkS [41])).bind λuC=>some (uC.2.list,uC.2.bad,!(uC.1)) else some (uA.1,uA.2.1,false):Option ((List kJ) × Bool × Bool)).bind λuB=>if uB.2.2 then (if decide (0<((uA.2.2.length:Int))) then (kP (⟨uB.1,uB.2.1⟩:kM) 3 (mkS [44])).bind λuE=>some (uE.list,uE.bad) else some (uB.1,uB.2.1):Option ((List kJ) × Bool)).bind λuF=>(kQ (⟨uF.1,uF.2⟩:kM) 1).bind λuD=>(lD uA.2.2 ([uD.1]:List kK)).bind λuG=>some (.inl (uD.2.list,uD.2.bad,uG)) else some (.inr (uA.2.2,uB.1,uB.2.1)):Option (((List kJ) × Bool × (List kK)) ⊕ ((List kK) × (List kJ) × Bool)))) (ws,false,[])=some (ks,ws',true)
def cb1 (acc : List kK) (ws : List kJ) : Prop := (∀ list n, list.length ≤ 1000 → vW list → AtW list n ws → ∀ q acc0 e, acc = acc0 ++ [e] → acc.length ≤ n → lL list q 1 = some (e, (n : Int)) → ∃ ks, lH (fun (uG : Int × (List kK)) => ((lL list uG.1 1).bind fun uB => (lD uG.2 ([uB.1] : List kK)).bind fun uE => (if decide (uB.2 < 0) then some true else (mC list uB.2 (mkS [41])).bind fun uD => some uD : Option (Bool)).bind fun uJ => if uJ then (oe uB.2).bind fun uK => some (.inr (uE, w64 (uB.2 + uK))) else (mC list uB.2 (mkS [44])).bind fun uL => if !(uL) then some (.inr (uE, -1)) else some (.inl (w64 (uB.2 + 1), uE)) : Option ((Int × (List kK)) ⊕ ((List kK) × Int)))) (q, acc0) = some (ks, -1)) ∧
 ∃ ks ws',lH (λ(uA:(List kJ) × Bool × (List kK))=>((if !(uA.2.1) then (kV (⟨uA.1,uA.2.1⟩:kM) 3 (mkS [41])).bind λuF=>some (uF.2.list,uF.2.bad,!(uF.1)) else some (uA.1,uA.2.1,false):Option ((List kJ) × Bool × Bool)).bind λuC=>if uC.2.2 then (if decide (0<((uA.2.2.length:Int))) then (kP (⟨uC.1,uC.2.1⟩:kM) 3 (mkS [44])).bind λuH=>some (uH.list,uH.bad) else some (uC.1,uC.2.1):Option ((List kJ) × Bool)).bind λuI=>(kQ (⟨uI.1,uI.2⟩:kM) 1).bind λuD=>(lD uA.2.2 ([uD.1]:List kK)).bind λuM=>some (.inl (uD.2.list,uD.2.bad,uM)) else some (.inr (uA.2.2,uC.1,uC.2.1)):Option (((List kJ) × Bool × (List kK)) ⊕ ((List kK) × (List kJ) × Bool)))) (ws,false,acc)=some (ks,ws',true)
def tj (lv:Int) (ws:List kJ):Prop:=(∃ e r,Rd (.E lv ws e r))∨az9 lv ws
theorem bj2:az9 5 []:=⟨λlist n _ _ ha=>⟨_,by rw [rf];exact ay6 ha⟩,⟨_,_,by rw [rV];exact ao1⟩⟩
theorem cc3 {lv:Int} (hlv:lv=1∨lv=2∨lv=3∨lv=4):∀ (k:Nat) (ws:List kJ),ws.length≤k→vW ws→ws.length≤1000→(∀ ws',ws'.length<ws.length→vW ws'→tj (lv+1) ws')→∀ x,(∃ e r,Rd (.L lv x ws e r))∨cc0 lv x ws:=by
 intro k
 induction k with
 | zero =>
  intro ws hk hv hl ht x
  have:ws=[]:=List.eq_nil_of_length_eq_zero (by omega)
  subst this
  exact .inl ⟨_,_,.stop rfl⟩
 | succ k ih =>
  intro ws hk hv hl ht x
  cases ws with
  | nil=>exact .inl ⟨_,_,.stop rfl⟩
  | cons w ws =>
   simp at hk hl
   by_cases ho:opW lv w=0
   ·exact .inl ⟨_,_,.stop ho⟩
   rcases ht ws (by simp) (oH hv) with ⟨f,r,h1⟩ | ⟨f1,f2⟩
   ·obtain ⟨s1,s2⟩:=s9 h1
    have hvr:vW r:=λy hy=>oH hv y (s2 y hy)
    rcases ih r (by omega) hvr (by omega) (λws' h=>ht ws' (by simp;omega)) ⟨opW lv w,0,mkS [],[x,f]⟩ with ⟨e,r',h2⟩ | ⟨f1,f2⟩
    ·exact .inl ⟨_,_,.step ho h1 h2⟩
    ·refine .inr ⟨λlist n hlen hvl ha=>?_,?_⟩
     ·obtain ⟨_,_,h3⟩:=mu ha
      obtain ⟨m,g1,g2,g3⟩:=wH hlen hvl h1 (n+1) h3
      obtain ⟨op,n_,nm,ks,h4⟩:=f1 list m hlen hvl g1
      exact ⟨op,n_,nm,ks,by rw [ab2 hlen ha hlv ho g3,wY];exact h4⟩
     ·obtain ⟨op,n_,nm,ks,ws',h4⟩:=f2
      exact ⟨op,n_,nm,ks,ws',by rw [zN hlv hv ho (sl h1 (oH hv) (by omega)),wY];exact h4⟩
   ·refine .inr ⟨λlist n hlen hvl ha=>?_,?_⟩
    ·obtain ⟨_,_,h3⟩:=mu ha
     obtain ⟨e,h4⟩:=f1 list (n+1) hlen hvl h3
     exact ⟨_,_,_,_,by rw [ab2 hlen ha hlv ho h4];exact av7⟩
    ·obtain ⟨e,ws',h4⟩:=f2
     exact ⟨_,_,_,_,ws',by rw [zN hlv hv ho h4];exact ag6⟩
theorem uw {lv:Int} (hlv:lv=1∨lv=2∨lv=3∨lv=4) {ws:List kJ} (hv:vW ws) (hl:ws.length≤1000) (ht:∀ ws',ws'.length≤ws.length→vW ws'→tj (lv+1) ws'):tj lv ws:=by
 rcases ht ws (Nat.le_refl _) hv with ⟨x,r,h1⟩ | ⟨f1,f2⟩
 ·obtain ⟨s1,s2⟩:=s9 h1
  rcases cc3 hlv r.length r (Nat.le_refl _) (λy hy=>hv y (s2 y hy)) (by omega) (λws' h=>ht ws' (by omega)) x with ⟨e,r',h2⟩ | ⟨f1,f2⟩
  ·exact .inl ⟨_,_,.up hlv h1 h2⟩
  ·refine .inr ⟨λlist n hlen hvl ha=>?_,?_⟩
   ·obtain ⟨m,g1,g2,g3⟩:=wH hlen hvl h1 n ha
    obtain ⟨op,n_,nm,ks,h4⟩:=f1 list m hlen hvl g1
    exact ⟨_,by rw [ah7 hlv,g3,obS,h4];rfl⟩
   ·obtain ⟨op,n_,nm,ks,ws',h4⟩:=f2
    exact ⟨_,ws',zk hlv (sl h1 hv hl) h4⟩
 ·refine .inr ⟨λlist n hlen hvl ha=>?_,?_⟩
  ·obtain ⟨e,h4⟩:=f1 list n hlen hvl ha
   exact ⟨_,by rw [ah7 hlv,h4,obS,av7];rfl⟩
  ·obtain ⟨e,ws',h4⟩:=f2
   exact ⟨_,ws',zk hlv h4 ag6⟩
theorem cc7:∀ (k:Nat) (ws:List kJ),ws.length≤k→vW ws→∀ acc,acc≠[]→acc.length+ws.length≤1000→(∀ ws',ws'.length<ws.length→vW ws'→tj 1 ws')→(∃ ks r,Rd (.M acc ws ks r))∨cb1 acc ws:=by
 intro k
 induction k with
 | zero =>
  intro ws hk hv acc h0 hl ht
  have:ws=[]:=List.eq_nil_of_length_eq_zero (by omega)
  subst this
  refine .inr ⟨λlist n hlen hvl ha q acc0 e he hle hr=>?_,ai6 h0 (by simp at hl;omega) hv rfl rfl⟩
  have hle2:=hle
  rw [he] at hle2
  simp at hle2
  have:=ha.2
  exact ⟨_,by rw [yO hlen (by omega) ha hr];rfl⟩
 | succ k ih =>
  intro ws hk hv acc h0 hl ht
  by_cases c1:isT ws (mkS [41])=true
  ·cases ws with
   | nil=>cases c1
   | cons v ws=>exact .inl ⟨_,_,.last (by simpa [isT] using c1)⟩
  have c1:isT ws (mkS [41])=false:=by simpa using c1
  by_cases c2:isT ws (mkS [44])=true
  ·cases ws with
   | nil=>cases c2
   | cons v ws =>
    have hv2:v.text=mkS [44]:=by simpa [isT] using c2
    simp at hk hl
    rcases ht ws (by simp) (oH hv) with ⟨f,r,h1⟩ | ⟨f1,f2⟩
    ·obtain ⟨s1,s2⟩:=s9 h1
     have hvr:vW r:=λy hy=>oH hv y (s2 y hy)
     rcases ih r (by omega) hvr (acc++[f]) (by simp) (by simp;omega) (λws' h=>ht ws' (by simp;omega)) with ⟨ks,r',h2⟩ | ⟨f1,f2⟩
     ·exact .inl ⟨_,_,.more hv2 h1 h2⟩
     ·refine .inr ⟨λlist n hlen hvl ha q acc0 e he hle hr=>?_,?_⟩
      ·obtain ⟨h5,_,h3⟩:=mu ha
       obtain ⟨m,g1,g2,g3⟩:=wH hlen hvl h1 (n+1) h3
       have hle2:=hle
       rw [he] at hle2
       simp at hle2
       obtain ⟨ks,h4⟩:=f1 list m hlen hvl g1 _ acc f rfl (by simp;omega) g3
       exact ⟨ks,by rw [yO hlen (by omega) ha hr,c1,c2,← he];exact h4⟩
      ·obtain ⟨ks,ws',h4⟩:=f2
       exact ⟨ks,ws',by rw [ab1 h0 (by omega) hv hv2 (sl h1 (oH hv) (by omega))];exact h4⟩
    ·refine .inr ⟨λlist n hlen hvl ha q acc0 e he hle hr=>?_,?_⟩
     ·obtain ⟨h5,_,h3⟩:=mu ha
      obtain ⟨e2,h4⟩:=f1 list (n+1) hlen hvl h3
      have hle2:=hle
      rw [he] at hle2
      simp at hle2
      exact ⟨_,by rw [yO hlen (by omega) ha hr,c1,c2,← he];exact av1 (by omega) h4⟩
     ·obtain ⟨e2,ws',h4⟩:=f2
      exact ⟨_,ws',by rw [ab1 h0 (by omega) hv hv2 h4];exact ag2⟩
  have c2:isT ws (mkS [44])=false:=by simpa using c2
  refine .inr ⟨λlist n hlen hvl ha q acc0 e he hle hr=>?_,ai6 h0 (by omega) hv c1 c2⟩
  have hle2:=hle
  rw [he] at hle2
  simp at hle2
  have:=ha.2
  exact ⟨_,by rw [yO hlen (by omega) ha hr,c1,c2];rfl⟩
theorem ca9 {ws:List kJ} (hv:vW ws) (hl:ws.length≤1000) (ht:∀ ws',ws'.length≤ws.length→vW ws'→tj 1 ws'):(∃ ks r,Rd (.A ws ks r))∨cb4 ws:=by
 by_cases c1:isT ws (mkS [41])=true
 ·cases ws with
  | nil=>cases c1
  | cons v ws=>exact .inl ⟨_,_,.done (by simpa [isT] using c1)⟩
 have c1:isT ws (mkS [41])=false:=by simpa using c1
 rcases ht ws (Nat.le_refl _) hv with ⟨x,r,h1⟩ | ⟨f1,f2⟩
 ·obtain ⟨s1,s2⟩:=s9 h1
  rcases cc7 r.length r (Nat.le_refl _) (λy hy=>hv y (s2 y hy)) [x] (by simp) (by simp;omega) (λws' h=>ht ws' (by omega)) with ⟨ks,r',h2⟩ | ⟨f1,f2⟩
  ·exact .inl ⟨_,_,.first c1 h1 h2⟩
  ·refine .inr ⟨λlist n hlen hvl ha=>?_,?_⟩
   ·obtain ⟨m,g1,g2,g3⟩:=wH hlen hvl h1 n ha
    obtain ⟨ks,h4⟩:=f1 list m hlen hvl g1 _ [] x rfl (by simp;omega) g3
    exact ⟨ks,by rw [zL hlen ha,c1];exact h4⟩
   ·obtain ⟨ks,ws',h4⟩:=f2
    exact ⟨ks,ws',by rw [xj hv c1 (sl h1 hv hl)];exact h4⟩
 ·refine .inr ⟨λlist n hlen hvl ha=>?_,?_⟩
  ·obtain ⟨e,h4⟩:=f1 list n hlen hvl ha
   exact ⟨_,by rw [zL hlen ha,c1];exact av1 (by simp) h4⟩
  ·obtain ⟨e,ws',h4⟩:=f2
   exact ⟨_,ws',by rw [xj hv c1 h4];exact ag2⟩
theorem bs9 {ws:List kJ} (hv:vW ws) (hl:ws.length≤1000) (h5:∀ ws',ws'.length<ws.length→vW ws'→tj 5 ws') (h1:∀ ws',ws'.length<ws.length→vW ws'→tj 1 ws'):tj 5 ws:=by
 cases ws with
 | nil=>exact .inr bj2
 | cons w ws =>
  have h0:=qM hv
  have hvt:=oH hv
  simp at hl
  by_cases c1:w.text=mkS [33]
  ·rcases h5 ws (by simp) hvt with ⟨e, r, h⟩ | ⟨f1, f2⟩
   ·exact .inl ⟨_,_,.neg c1 h⟩
   ·refine .inr ⟨λlist n hlen hvl ha=>?_,?_⟩
    ·obtain ⟨e,g⟩:=f1 list (n+1) hlen hvl (mu ha).2.2
     rw [rf] at g
     exact ⟨_,by rw [rf,oU hlen ha,if_pos c1,g];rfl⟩
    ·obtain ⟨e,ws',g⟩:=f2
     rw [rV] at g
     exact ⟨_,ws',by rw [rV,oC hv,if_pos c1,g];rfl⟩
  by_cases c2:w.text=mkS [64]
  ·rcases h5 ws (by simp) hvt with ⟨e, r, h⟩ | ⟨f1, f2⟩
   ·exact .inl ⟨_,_,.at_ c2 h⟩
   ·refine .inr ⟨λlist n hlen hvl ha=>?_,?_⟩
    ·obtain ⟨e,g⟩:=f1 list (n+1) hlen hvl (mu ha).2.2
     rw [rf] at g
     exact ⟨_,by rw [rf,oU hlen ha,if_neg c1,if_pos c2,g];rfl⟩
    ·obtain ⟨e,ws',g⟩:=f2
     rw [rV] at g
     exact ⟨_,ws',by rw [rV,oC hv,if_neg c1,if_pos c2,g];rfl⟩
  by_cases c3:w.text=mkS [40]
  ·rcases h1 ws (by simp) hvt with ⟨e, r, h⟩ | ⟨f1, f2⟩
   ·obtain ⟨s1,s2⟩:=s9 h
    by_cases c4:isT r (mkS [41])=true
    ·cases r with
     | nil=>cases c4
     | cons v r=>exact .inl ⟨_,_,.par c3 h (by simpa [isT] using c4)⟩
    have c4:isT r (mkS [41])=false:=by simpa using c4
    refine .inr ⟨λlist n hlen hvl ha=>?_,?_⟩
    ·obtain ⟨m,g1,g2,g3⟩:=wH hlen hvl h (n+1) (mu ha).2.2
     have e1:decide ((m:Int)<0)=false:=by simp
     refine ⟨e,?_⟩
     rw [rf,oU hlen ha,if_neg c1,if_neg c2,if_pos c3,g3,obS]
     dsimp only
     rw [e1,y8 g1,c4];rfl
    ·refine ⟨e,r,?_⟩
     rw [rV,oC hv,if_neg c1,if_neg c2,if_pos c3,sl h hvt (by omega),obS]
     dsimp only
     rw [tq,ud (λx hx=>hvt x (s2 x hx)) rfl (by decide),c4];rfl
   ·refine .inr ⟨λlist n hlen hvl ha=>?_,?_⟩
    ·obtain ⟨e,g⟩:=f1 list (n+1) hlen hvl (mu ha).2.2
     exact ⟨e,by rw [rf,oU hlen ha,if_neg c1,if_neg c2,if_pos c3,g];rfl⟩
    ·obtain ⟨e,ws',g⟩:=f2
     refine ⟨e,if tkW ws' 3 (mkS [41]) then ws'.tail else ws',?_⟩
     rw [rV,oC hv,if_neg c1,if_neg c2,if_pos c3,g,obS]
     dsimp only
     rw [tq]
     cases tkW ws' 3 (mkS [41])<;>rfl
  by_cases c4:w.kind=2
  ·exact .inl ⟨_,_,.num c4⟩
  by_cases c5:w.kind=1
  ·cases c6:isT ws (mkS [40]) with
   | false=>exact .inl ⟨_,_,.var c5 c6⟩
   | true =>
    cases ws with
    | nil=>cases c6
    | cons v ws =>
     have c7:v.text=mkS [40]:=by simpa [isT] using c6
     simp at hl
     rcases ca9 (oH hvt) (by omega) (λws' h=>h1 ws' (by simp;omega)) with ⟨ks,r,h⟩ | ⟨f1,f2⟩
     ·exact .inl ⟨_,_,.call c5 c7 h⟩
     ·refine .inr ⟨λlist n hlen hvl ha=>?_,?_⟩
      ·obtain ⟨ks,g⟩:=f1 list (n+2) hlen hvl (mu (mu ha).2.2).2.2
       exact ⟨_,by rw [rf,oU hlen ha,if_neg c1,if_neg c2,if_neg c3,if_neg c4,if_neg (by omega),if_neg (by rw [c6];decide),g];rfl⟩
      ·obtain ⟨ks,ws',g⟩:=f2
       exact ⟨_,ws',by rw [rV,oC hv,if_neg c1,if_neg c2,if_neg c3,if_neg c4,if_neg (by omega),if_neg (by rw [c6];decide),List.tail_cons,g];rfl⟩
  ·refine .inr ⟨λlist n hlen hvl ha=>⟨_,by rw [rf,oU hlen ha,if_neg c1,if_neg c2,if_neg c3,if_neg c4,if_pos c5]⟩,⟨_,ws,by rw [rV,oC hv,if_neg c1,if_neg c2,if_neg c3,if_neg c4,if_pos c5]⟩⟩
theorem bo0:∀ (k:Nat) (ws:List kJ),ws.length≤k→ws.length≤1000→vW ws→∀ lv:Int,(lv=1∨lv=2∨lv=3∨lv=4∨lv=5)→tj lv ws:=by
 intro k
 induction k with
 | zero =>
  intro ws hk hl hv
  have h5:∀ ws':List kJ,ws'.length≤ws.length→vW ws'→tj 5 ws':=λws' h hv'=>bs9 hv' (by omega) (λ_ h=>by omega) (λ_ h=>by omega)
  have h4:∀ ws':List kJ,ws'.length≤ws.length→vW ws'→tj 4 ws':=λws' h hv'=>uw (by omega) hv' (by omega) λx hx=>h5 x (by omega)
  have h3:∀ ws':List kJ,ws'.length≤ws.length→vW ws'→tj 3 ws':=λws' h hv'=>uw (by omega) hv' (by omega) λx hx=>h4 x (by omega)
  have h2:∀ ws':List kJ,ws'.length≤ws.length→vW ws'→tj 2 ws':=λws' h hv'=>uw (by omega) hv' (by omega) λx hx=>h3 x (by omega)
  have h1:∀ ws':List kJ,ws'.length≤ws.length→vW ws'→tj 1 ws':=λws' h hv'=>uw (by omega) hv' (by omega) λx hx=>h2 x (by omega)
  rintro lv (rfl | rfl | rfl | rfl | rfl)
  ·exact h1 ws (Nat.le_refl _) hv
  ·exact h2 ws (Nat.le_refl _) hv
  ·exact h3 ws (Nat.le_refl _) hv
  ·exact h4 ws (Nat.le_refl _) hv
  ·exact h5 ws (Nat.le_refl _) hv
 | succ k ih =>
  intro ws hk hl hv
  have h5:∀ ws':List kJ,ws'.length≤ws.length→vW ws'→tj 5 ws':=λws' h hv'=>bs9 hv' (by omega) (λx hx hvx=>ih x (by omega) (by omega) hvx 5 (by omega)) (λx hx hvx=>ih x (by omega) (by omega) hvx 1 (by omega))
  have h4:∀ ws':List kJ,ws'.length≤ws.length→vW ws'→tj 4 ws':=λws' h hv'=>uw (by omega) hv' (by omega) λx hx=>h5 x (by omega)
  have h3:∀ ws':List kJ,ws'.length≤ws.length→vW ws'→tj 3 ws':=λws' h hv'=>uw (by omega) hv' (by omega) λx hx=>h4 x (by omega)
  have h2:∀ ws':List kJ,ws'.length≤ws.length→vW ws'→tj 2 ws':=λws' h hv'=>uw (by omega) hv' (by omega) λx hx=>h3 x (by omega)
  have h1:∀ ws':List kJ,ws'.length≤ws.length→vW ws'→tj 1 ws':=λws' h hv'=>uw (by omega) hv' (by omega) λx hx=>h2 x (by omega)
  rintro lv (rfl | rfl | rfl | rfl | rfl)
  ·exact h1 ws (Nat.le_refl _) hv
  ·exact h2 ws (Nat.le_refl _) hv
  ·exact h3 ws (Nat.le_refl _) hv
  ·exact h4 ws (Nat.le_refl _) hv
  ·exact h5 ws (Nat.le_refl _) hv
end Prg
end Go.Wk
namespace Go.Wk
open Go
namespace Prg
set_option maxRecDepth 10000
theorem ax8:∀ (k:Nat) (l:List UInt8),l.length≤k→∀ ws,tok l=some ws→vW ws:=by
 intro k
 induction k with
 | zero =>
  intro l hl ws h
  have:l=[]:=List.eq_nil_of_length_eq_zero (by omega)
  subst this
  rw [tu] at h
  cases h
  exact λw hw=>by cases hw
 | succ k ih =>
  intro l hl ws h
  cases l with
  | nil =>
   rw [tu] at h
   cases h
   exact λw hw=>by cases hw
  | cons c r =>
   rw [tS] at h
   simp at hl
   by_cases h1:xX c=true
   ·rw [if_pos h1] at h
    exact ih r hl ws h
   rw [if_neg h1] at h
   by_cases h2:oZ (tt c (r.takeWhile (nY c)))=true
   ·rw [if_pos h2] at h
    obtain ⟨ws',h3,h4⟩:=Option.map_eq_some_iff.1 h
    have:=ih _ (Nat.le_trans (xS _ _) hl) ws' h3
    subst h4
    intro w hw
    rcases List.mem_cons.1 hw with rfl | hw
    ·exact h2
    ·exact this w hw
   ·rw [if_neg h2] at h;cases h
theorem an3 {s:Str} {ws:List kJ} (h:xr s=some ws):vW ws∧ws.length≤600:=by
 unfold xr at h
 split at h
 ·rw [Option.filter_eq_some_iff,decide_eq_true_iff] at h
  exact ⟨ax8 _ _ (Nat.le_refl _) _ h.1,h.2⟩
 ·cases h
def noE:kK:=⟨0,0,mkS [],[]⟩
theorem bq2 (ws:List kJ):AtW ws 0 ws:=⟨rfl,Nat.zero_le _⟩
theorem sT {s:Str} {ws:List kJ} (h:xr s=some ws):ak8 s=(ws,true):=by unfold ak8;rw [h]
theorem ay3 {s:Str} (h:xr s=none):ak8 s=([],false):=by unfold ak8;rw [h]
end Prg
end Go.Wk
namespace Go.Wk
open Go
namespace Prg
set_option maxRecDepth 10000
end Prg
end Go.Wk
namespace Go.Wk
open Go
namespace Prg
set_option maxRecDepth 10000
def xf (n:Int):Str:=(ac4 n).getD (mkS [])
theorem at6 (n:Nat):qh (48+((n % 10:Nat):Int))=UInt8.ofNat (48+n % 10):=by
 unfold qh
 congr 1
 omega
theorem bc6:∀ n:Nat,n<1000→(Lib.decDigits n).length≤3:=by
 intro n h
 rw [Lib.decDigits]
 split
 ·simp
 ·rw [Lib.decDigits]
  split
  ·simp
  ·rw [Lib.decDigits]
   split
   ·simp
   ·omega
theorem ae0 {n:Nat} (h:n<1000):strconv_Itoa (n:Int)=some (xf n)∧(xf n).b=Lib.decDigits n:=by
 have hl:=bc6 n h
 have hi:Lib.itoa (n:Int)=Lib.decDigits n:=by unfold Lib.itoa;rw [if_neg (by omega)];simp
 have:ac4 (n:Int)=some ⟨Lib.decDigits n,by omega⟩:=by
  unfold ac4
  have h1:(Lib.itoa (n:Int)).length≤140737488355328:=by rw [hi];omega
  rw [dif_pos h1,if_pos ⟨by omega,by omega⟩]
  simp only [hi]
 constructor
 ·unfold strconv_Itoa xf;rw [this];rfl
 ·unfold xf;rw [this];rfl
theorem bh0:∀ (n:Nat) (s:Str),n≤100000→s.b.length+n≤200000→∃ (m:Nat) (t:Str),lH (λ(uA:Int × Str)=>(if decide (9<uA.1) then (ll (yr ([(qh (w64 (48+(uA.1.tmod 10))))]:List UInt8)) uA.2).bind λuB=>some (.inl (w64 (uA.1.tdiv 10),uB)) else some (.inr (uA.1,uA.2)):Option ((Int × Str) ⊕ (Int × Str)))) ((n:Int),s)=some ((m:Int),t)∧m≤9∧UInt8.ofNat (48+m)::t.b=Lib.decDigits n++s.b∧t.b.length≤s.b.length+n:=by
 intro n
 induction n using Nat.strongRecOn with
 | ind n ih =>
  intro s hn hs
  by_cases h0:n≤9
  ·refine ⟨n, s, lJ ?_, h0, ?_, by omega⟩
   ·have e1 : decide (9 < (n : Int)) = false := by simp; omega
    dsimp only
    rw [e1];rfl
   ·rw [Lib.decDigits,dif_pos (by omega)];rfl
  ·have e1 : decide (9 < (n : Int)) = true := by simp; omega
   have e2:w64 ((n:Int).tdiv 10)=((n / 10:Nat):Int):=by
    have:(n:Int).tdiv 10=((n / 10:Nat):Int):=by rw [Int.tdiv_eq_ediv_of_nonneg (by omega)];omega
    rw [this,lV (by omega) (by omega)]
   have e3:w64 (48+(n:Int).tmod 10)=48+((n % 10:Nat):Int):=by
    have:(n:Int).tmod 10=((n % 10:Nat):Int):=by rw [Int.tmod_eq_emod_of_nonneg (by omega)];omega
    rw [this,lV (by omega) (by omega)]
   have hc:(yr [qh (48+((n % 10:Nat):Int))]).b=[UInt8.ofNat (48+n % 10)]:=by rw [ap4 (by simp),at6]
   generalize hg:yr [qh (48+((n % 10:Nat):Int))]=c at hc
   have hc1:c.b.length=1:=by rw [hc];rfl
   obtain ⟨t,ht,ht2⟩:∃ t,ll c s=some t∧t.b=c.b++s.b:=by
    refine ⟨⟨c.b++s.b,by simp;omega⟩,kq.2 ⟨by omega,rfl⟩,rfl⟩
   have ht3:t.b.length=s.b.length+1:=by rw [ht2];simp;omega
   obtain ⟨m,u,h1,h2,h3,h4⟩:=ih (n / 10) (by omega) t (by omega) (by omega)
   refine ⟨m,u,?_,h2,?_,by omega⟩
   ·rw [mQ (s':=(((n / 10:Nat):Int),t))]
    ·exact h1
    ·dsimp only
     rw [if_pos e1,e3,hg,ht,obS,e2]
   ·rw [h3,ht2,hc]
    conv=>rhs;rw [Lib.decDigits,dif_neg (by omega)]
    simp
theorem ay2 {n:Nat} (h:n<1000):pf (n:Int)=some (xf n):=by
 rw [pf]
 have e1:decide ((n:Int) < -9223372036854775807)=false:=decide_eq_false (by omega)
 have e2:decide ((n:Int)<0)=false:=by simp
 rw [e1,e2]
 simp only [Bool.false_eq_true,if_false]
 obtain ⟨m,t,h1,h2,h3,h4⟩:=bh0 n (mkS []) (by omega) (by show 0+n≤_;omega)
 rw [h1]
 simp only [obS]
 have e3:w64 (48+(m:Int))=48+((m % 10:Nat):Int):=by rw [lV (by omega) (by omega)];omega
 have e4:m % 10=m:=by omega
 have hc:(yr [qh (w64 (48+(m:Int)))]).b=[UInt8.ofNat (48+m)]:=by rw [ap4 (by simp),e3,at6,e4]
 have h5:t.b.length≤n:=by simpa [mkS] using h4
 have:ll (yr [qh (w64 (48+(m:Int)))]) t=some (xf n):=by
  refine kq.2 ⟨by rw [hc];simp;omega,?_⟩
  rw [(ae0 h).2,hc]
  exact ((List.append_nil _).symm.trans h3.symm)
 rw [this];rfl
theorem ak3:∀ n:Nat,(Lib.decDigits n).all nh=true:=by
 intro n
 induction n using Nat.strongRecOn with
 | ind n ih =>
  have hd:∀ k:Nat,k<10→nh (UInt8.ofNat (48+k))=true:=by
   intro k hk
   rw [ra]
   have:(UInt8.ofNat (48+k)).toNat=48+k:=by rw [UInt8.toNat_ofNat'];omega
   omega
  rw [Lib.decDigits]
  split
  ·rw [List.all_cons,hd n (by omega)];rfl
  ·rw [List.all_append,ih (n / 10) (by omega),List.all_cons,hd (n % 10) (by omega)];rfl
theorem ak9:∀ n:Nat,vD 0 (Lib.decDigits n)=n:=by
 intro n
 induction n using Nat.strongRecOn with
 | ind n ih =>
  have hd:∀ k:Nat,k<10→(UInt8.ofNat (48+k)).toNat - 48=k:=by
   intro k hk
   have:(UInt8.ofNat (48+k)).toNat=48+k:=by rw [UInt8.toNat_ofNat'];omega
   omega
  rw [Lib.decDigits]
  split
  ·show 0 * 10 + ((UInt8.ofNat (48 + n)).toNat - 48) = n
   rw [hd n (by omega)];omega
  ·rw [at9,ih (n / 10) (by omega),hd (n % 10) (by omega)];omega
theorem ax0:∀ n:Nat,0<n→(Lib.decDigits n)[0]?≠some 48:=by
 intro n
 induction n using Nat.strongRecOn with
 | ind n ih =>
  intro h0
  rw [Lib.decDigits]
  split
  ·intro h
   have this:=congrArg UInt8.toNat (Option.some.inj h)
   rw [UInt8.toNat_ofNat'] at this
   have h48:(48:UInt8).toNat=48:=rfl
   omega
  ·have h1 := ih (n / 10) (by omega) (by omega)
   cases hd:Lib.decDigits (n / 10) with
   | nil =>
    rw [Lib.decDigits] at hd
    split at hd<;>simp at hd
   | cons a l=>rw [hd] at h1;simpa using h1
theorem bl8 (n:Nat):Lib.decDigits n≠[]:=by
 rw [Lib.decDigits];split<;>simp
theorem ac7 {n:Nat} (h:n≤255):q7 (xf n)=n:=by
 have hz:ue (Lib.decDigits n)=false:=by
  unfold ue
  by_cases h0:n=0
  ·subst h0
   have:Lib.decDigits 0=[48]:=by rw [Lib.decDigits];rfl
   rw [this];rfl
  ·have := ax0 n (by omega)
   simp [this]
 unfold q7
 rw [(ae0 (by omega)).2,if_pos ⟨bl8 n,ak3 n,hz,by rw [ak9];exact h⟩,ak9]
def txt (ws:List kJ):List UInt8:=Lib.join (ws.map (λw=>w.text.b)) [32]
theorem as3:txt []=[]:=rfl
theorem oQ (w:kJ):txt [w]=w.text.b:=Lib.join_one _ _
theorem mS {w:kJ} {ws:List kJ} (h:ws≠[]):txt (w::ws)=w.text.b++32::txt ws:=by
 obtain ⟨v,r,rfl⟩:∃ v r,ws=v::r:=by cases ws with | nil=>exact absurd rfl h | cons v r=>exact ⟨v,r,rfl⟩
 unfold txt
 rw [List.map_cons,List.map_cons,Lib.join_cons,Lib.join_cons]
 simp [Lib.joinTail]
theorem nt:∀ {a b:List kJ},a≠[]→b≠[]→txt (a++b)=txt a++32::txt b
 | [],_,h,_=>absurd rfl h
 | [w],b,_,hb=>by rw [List.cons_append,List.nil_append,mS hb,oQ]
 | w::v::r,b,_,hb=>by
  rw [List.cons_append,mS (by simp),nt (a:=v::r) (by simp) hb,mS (w:=w) (ws:=v::r) (by simp)]
  simp
theorem wD {p:UInt8→Bool}:∀ {l:List UInt8},l.all p=true→l.takeWhile p=l
 | [],_=>rfl
 | a::l,h=>by
  rw [List.all_cons,Bool.and_eq_true] at h
  rw [List.takeWhile_cons,if_pos h.1,wD h.2]
theorem ad8 {p:UInt8→Bool} {b:UInt8} (hb:p b=false):∀ {l r:List UInt8},l.takeWhile p=l→(l++b::r).takeWhile p=l∧(l++b::r).dropWhile p=b::r
 | [],r,_=>by
  rw [List.nil_append,List.takeWhile_cons,List.dropWhile_cons,hb]
  exact ⟨rfl,rfl⟩
 | a::l,r,h=>by
  rw [List.takeWhile_cons] at h
  split at h
  ·rename_i ha
   have:=ad8 hb (l:=l) (r:=r) (by simpa using h)
   rw [List.cons_append,List.takeWhile_cons,List.dropWhile_cons,if_pos ha,if_pos ha,this.1,this.2]
   exact ⟨rfl,rfl⟩
  ·cases h
theorem ad7 {p:UInt8→Bool}:∀ {l:List UInt8},l.takeWhile p=l→l.dropWhile p=[]
 | [],_=>rfl
 | a::l,h=>by
  rw [List.takeWhile_cons] at h
  split at h
  ·rename_i ha
   rw [List.dropWhile_cons,if_pos ha,ad7 (by simpa using h)]
  ·cases h
theorem bm1 {s:Str} (h:sa s=true):s.b≠[]∧s.b.all oI=true∧s.b.length≤4:=by
 have hm:s∈k7:=of_decide_eq_true h
 have key:∀ k∈k7,k.b≠[]∧k.b.all oI=true∧k.b.length≤4:=by
  intro k hk
  unfold k7 at hk
  simp only [List.mem_cons,List.not_mem_nil,or_false] at hk
  rcases hk with rfl | rfl | rfl | rfl | rfl | rfl | rfl | rfl | rfl<;>exact ⟨by decide,by decide,by decide⟩
 exact key s hm
theorem yy {c:UInt8} (h:oI c=true∨nh c=true∨c∈rO):xX c=false:=by
 have key:oI 32=false∧nh 32=false∧(32:UInt8) ∉ rO∧oI 10=false∧nh 10=false∧(10:UInt8) ∉ rO:=by decide
 obtain ⟨k1,k2,k3,k4,k5,k6⟩:=key
 unfold xX
 rw [decide_eq_false_iff_not]
 rintro (rfl | rfl)
 ·rcases h with h | h | h
  ·rw [k1] at h;cases h
  ·rw [k2] at h;cases h
  ·exact k3 h
 ·rcases h with h | h | h
  ·rw [k4] at h;cases h
  ·rw [k5] at h;cases h
  ·exact k6 h
theorem uv {w:kJ} (h:oZ w=true):∃ c l,w.text.b=c::l∧xX c=false∧l.takeWhile (nY c)=l∧tt c l=w∧w.text.b.length≤4:=by
 obtain ⟨kind,s⟩:=w
 have hb:∀ {c l},s.b=c::l→tt c l=⟨tK c s,s⟩:=λ{c l} e=>by unfold tt;rw [← e,by0]
 unfold oZ at h
 dsimp only at h ⊢
 by_cases h1:kind=1
 ·rw [if_pos h1] at h
  unfold lu at h
  simp only [Bool.and_eq_true,decide_eq_true_iff,Bool.not_eq_true'] at h
  obtain ⟨⟨⟨g1,g2⟩,g3⟩,g4⟩:=h
  obtain ⟨c,l,hc⟩:∃ c l,s.b=c::l:=by cases hs:s.b with | nil=>exact absurd hs g1 | cons c l=>exact ⟨c,l,rfl⟩
  rw [hc,List.all_cons,Bool.and_eq_true] at g2
  refine ⟨c,l,hc,yy (.inl g2.1),wD ?_,?_,g3⟩
  ·have : nY c = oI := by funext x; unfold nY; rw [g2.1]; rfl
   rw [this];exact g2.2
  ·rw [hb hc,h1]
   unfold tK
   rw [g4,g2.1];rfl
 rw [if_neg h1] at h
 by_cases h2:kind=2
 ·rw [if_pos h2,decide_eq_true_iff] at h
  have hI:s.b≠[]∧s.b.all nh=true∧ue s.b=false∧vD 0 s.b≤255:=by
   unfold q7 at h
   split at h
   ·rename_i h';exact h'
   ·omega
  obtain ⟨g1,g2,g3,g4⟩:=hI
  have hlen:s.b.length≤4:=by
   rcases Nat.lt_or_ge s.b.length 4 with h' | h'
   ·omega
   ·have:=aa9 g3 g2 h';omega
  obtain ⟨c,l,hc⟩:∃ c l,s.b=c::l:=by cases hs:s.b with | nil=>exact absurd hs g1 | cons c l=>exact ⟨c,l,rfl⟩
  rw [hc,List.all_cons,Bool.and_eq_true] at g2
  have hlet:oI c=false:=by
   cases hl:oI c with
   | false=>rfl
   | true=>rw [zF hl] at g2;cases g2.1
  have hk:sa s=false:=by
   cases hk:sa s with
   | false=>rfl
   | true=>rw [wv hc hk] at hlet;cases hlet
  refine ⟨c,l,hc,yy (.inr (.inl g2.1)),wD ?_,?_,hlen⟩
  ·have : nY c = nh := by funext x; unfold nY; rw [hlet, g2.1]; rfl
   rw [this];exact g2.2
  ·rw [hb hc,h2]
   unfold tK
   rw [hk,hlet,g2.1];rfl
 rw [if_neg h2] at h
 by_cases h3:kind=3
 ·rw [if_pos h3] at h
  match hs:s.b,h with
  | [c],h =>
   have hcm:c∈rO:=of_decide_eq_true h
   have hcl:oI c=false∧nh c=false:=by
    have key:∀ c∈rO,oI c=false∧nh c=false:=by decide
    exact key c hcm
   have hk:sa s=false:=by
    cases hk:sa s with
    | false=>rfl
    | true=>have:=wv hs hk;rw [hcl.1] at this;cases this
   refine ⟨c,[],rfl,yy (.inr (.inr hcm)),rfl,?_,by simp⟩
   rw [hb hs,h3]
   unfold tK
   rw [hk,hcl.1,hcl.2];rfl
 rw [if_neg h3] at h
 by_cases h4:kind=4
 ·rw [if_pos h4] at h
  obtain ⟨g1,g2,g3⟩:=bm1 h
  obtain ⟨c,l,hc⟩:∃ c l,s.b=c::l:=by cases hs:s.b with | nil=>exact absurd hs g1 | cons c l=>exact ⟨c,l,rfl⟩
  rw [hc,List.all_cons,Bool.and_eq_true] at g2
  refine ⟨c,l,hc,yy (.inl g2.1),wD ?_,?_,g3⟩
  ·have : nY c = oI := by funext x; unfold nY; rw [g2.1]; rfl
   rw [this];exact g2.2
  ·rw [hb hc,h4]
   unfold tK
   rw [h];rfl
 ·rw [if_neg h4] at h;cases h
theorem bl9 (c:UInt8):nY c 32=false:=by
 have:oI 32=false∧nh 32=false:=by decide
 unfold nY
 rw [this.1,this.2]
 cases oI c<;>cases nh c<;>rfl
theorem ag4:∀ (ws:List kJ),vW ws→tok (txt ws)=some ws
 | [],_=>by rw [as3,tu]
 | [w],h=>by
  have hw:=qM h
  obtain ⟨c,l,h1,h2,h3,h4,_⟩:=uv hw
  rw [oQ,h1,tS,h2,if_neg (by decide),h3,h4,if_pos hw,ad7 h3,tu];rfl
 | w::v::r,h=>by
  have hw:=qM h
  obtain ⟨c,l,h1,h2,h3,h4,_⟩:=uv hw
  have h5:=ad8 (bl9 c) (r:=txt (v::r)) h3
  rw [mS (by simp),h1,List.cons_append,tS,h2,if_neg (by decide),h5.1,h5.2,h4,if_pos hw,tS 32,if_pos (by decide),ag4 (v::r) (oH h)];rfl
theorem sO:∀ (ws:List kJ),vW ws→(txt ws).length≤5*ws.length
 | [],_=>by rw [as3];simp
 | [w],h=>by
  obtain ⟨c,l,h1,h2,h3,h4,h5⟩:=uv (qM h)
  rw [oQ];simp;omega
 | w::v::r,h=>by
  obtain ⟨c,l,h1,h2,h3,h4,h5⟩:=uv (qM h)
  have:=sO (v::r) (oH h)
  rw [mS (by simp)]
  simp at this ⊢
  omega
end Prg
end Go.Wk
namespace Go.Wk
open Go
namespace Prg
set_option maxRecDepth 10000
def pL:kJ:=⟨3,mkS [40]⟩
def pR:kJ:=⟨3,mkS [41]⟩
def cM:kJ:=⟨3,mkS [44]⟩
def sgS (op:Int):Str:=if op=3 then mkS [43] else if op=4 then mkS [45] else if op=5 then mkS [42] else if op=6 then mkS [47] else if op=7 then mkS [37] else if op=8 then mkS [60] else if op=9 then mkS [61] else if op=10 then mkS [38] else if op=11 then mkS [33] else mkS [64]
def sgW (op:Int):kJ:=⟨3,sgS op⟩
def aW:List (List kJ)→List kJ
 | []=>[]
 | x::r=>x++(r.map (cM::·)).flatten
def kid (e:kK) (i:Nat):kK:=(e.kids[i]?).getD noE
def brW (b:Bool) (ws:List kJ):List kJ:=if b then pL::(ws++[pR]) else ws
def wE:Nat→kK→List kJ
 | 0,_=>[]
 | d+1,e =>
  if e.op=1 then [⟨2,xf e.n_⟩]
  else if e.op=2 then [⟨1,e.name⟩]
  else if e.op=13 then ⟨1,e.name⟩::pL::(aW (e.kids.map (wE d))++[pR])
  else if e.op=11∨e.op=12 then sgW e.op::brW (decide (lvI (kid e 0).op<5)) (wE d (kid e 0))
  else brW (decide (lvI (kid e 0).op<lvI e.op)) (wE d (kid e 0))++sgW e.op::brW (decide (lvI (kid e 1).op≤lvI e.op)) (wE d (kid e 1))
theorem zD (l:List (List kJ)) (x:List kJ):aW (l++[x])=if l=[] then x else aW l++cM::x:=by
 cases l with
 | nil=>simp [aW]
 | cons y l=>simp [aW]
theorem ac6 {op:Int} (h:inB op 1 13=true):(op=1∨op=2∨op=13)∧lvI op=6∨(op=11∨op=12)∧lvI op=5∨(3≤op∧op≤10)∧(lvI op=1∨lvI op=2∨lvI op=3∨lvI op=4):=by
 rcases ak2 h with rfl | rfl | rfl | rfl | rfl | rfl | rfl | rfl | rfl | rfl | rfl | rfl | rfl<;>simp [lvI]
theorem bo9 {op:Int} (h:3≤op∧op≤10):((ni.get kO op).getD (⟨mkS [],0⟩:k9)).sign=sgS op:=by
 have:op=3∨op=4∨op=5∨op=6∨op=7∨op=8∨op=9∨op=10:=by omega
 rcases this with rfl | rfl | rfl | rfl | rfl | rfl | rfl | rfl<;>rfl
theorem ak7 {op:Int} (h:3≤op∧op≤12):mT op=some (sgS op):=by
 have:op=3∨op=4∨op=5∨op=6∨op=7∨op=8∨op=9∨op=10∨op=11∨op=12:=by omega
 rcases this with rfl | rfl | rfl | rfl | rfl | rfl | rfl | rfl | rfl | rfl<;>rfl
theorem s8 {e:kK} (h:rk e=true):inB e.op 1 13=true∧(e.op=1→0≤e.n_∧e.n_≤255)∧(e.op=1∨e.n_=0)∧((e.op=2∨e.op=13)→lu e.name=true)∧(¬ (e.op=2∨e.op=13)→e.name=mkS []) ∧
  ((e.op=1∨e.op=2)→e.kids=[])∧((e.op=11∨e.op=12)→∃ a,e.kids=[a])∧((3≤e.op∧e.op≤10)→∃ a b,e.kids=[a,b])∧e.kids.length≤3:=by
 have hk3:=vw h
 unfold rk at h
 simp only [Bool.and_eq_true,decide_eq_true_iff] at h
 obtain ⟨h1,h2,h3,h4,h5⟩:=h
 have h4':=oJ.1 h4
 have h2':=oJ.1 h2
 refine ⟨h1,λ_=>h4',h5,λhc=>?_,λhc=>?_,λhc=>?_,λhc=>?_,λhc=>?_,hk3⟩
 ·rw [if_pos hc] at h3;exact h3
 ·rw [if_neg hc,decide_eq_true_iff] at h3;exact h3
 ·have : qj e.op = (0, 0) := by unfold qj; rw [if_pos hc]
  rw [this] at h2'
  exact List.eq_nil_of_length_eq_zero (by have:=h2'.2;dsimp only at this;omega)
 ·have : qj e.op = (1, 1) := by unfold qj; rw [if_neg (by omega), if_pos hc]
  rw [this] at h2'
  match hk:e.kids,h2' with
  | [a],_=>exact ⟨a,rfl⟩
  | [],h=>simp at h
  | _::_::_,h=>simp at h;omega
 ·have : qj e.op = (2, 2) := by unfold qj; rw [if_neg (by omega), if_neg (by omega), if_neg (by omega)]
  rw [this] at h2'
  match hk:e.kids,h2' with
  | [a,b],_=>exact ⟨a,b,rfl⟩
  | [],h=>simp at h
  | [_],h=>simp at h
  | _::_::_::_,h=>simp at h;omega
theorem vg:∀ {d:Nat} {e:kK},lR d e=true→wE d e≠[]:=by
 intro d e h
 cases d with
 | zero=>rw [lR] at h;cases h
 | succ d =>
  rw [wE]
  repeat' split
  all_goals simp
theorem an7 {b:Bool} {ws:List kJ} (h:ws≠[]):brW b ws≠[]:=by
 unfold brW;split
 ·simp
 ·exact h
theorem af2 (b:Bool) (ws:List kJ):(brW b ws).length≤ws.length+2:=by
 unfold brW;split<;>simp
theorem bb2:∀ l:List (List kJ),(aW l).length≤(l.map List.length).sum+l.length
 | []=>by simp [aW]
 | x::r=>by
  have:∀ r:List (List kJ),((r.map (cM::·)).flatten).length=(r.map List.length).sum+r.length:=by
   intro r
   induction r with
   | nil=>rfl
   | cons y r ih=>simp at ih ⊢;omega
  simp only [aW,List.length_append,this,List.map_cons,List.sum_cons,List.length_cons]
  omega
theorem bn3 (a b:List (List kJ)):(aW a).length≤(aW (a++b)).length:=by
 cases a with
 | nil=>simp [aW]
 | cons x r=>simp [aW]
theorem wX:∀ {d:Nat} {e:kK},lR d e=true→(wE d e).length+3≤6*lz e
 | 0,e,h=>by rw [lR] at h;cases h
 | d+1,e,h=>by
  obtain ⟨h1,h2⟩:=qA h
  obtain ⟨i1,_,_,_,_,i6,i7,i8,i9⟩:=s8 h1
  rw [oo,wE]
  by_cases c1:e.op=1
  ·rw [if_pos c1];simp;omega
  rw [if_neg c1]
  by_cases c2:e.op=2
  ·rw [if_pos c2];simp;omega
  rw [if_neg c2]
  by_cases c3:e.op=13
  ·rw [if_pos c3]
   have h4:=bb2 (e.kids.map (wE d))
   have h5:∀ ks:List kK,(∀ k∈ks,lR d k=true)→((ks.map (wE d)).map List.length).sum+3*ks.length≤6*mL ks:=by
    intro ks
    induction ks with
    | nil=>intro _;simp
    | cons k ks ih =>
     intro hk
     have g1:=wX (hk k (by simp))
     have g2:=ih λx hx=>hk x (by simp [hx])
     rw [mI]
     simp at g2 ⊢
     omega
   have h6:=h5 e.kids h2
   simp at h4 ⊢
   simp at h6
   omega
  rw [if_neg c3]
  by_cases c4:e.op=11∨e.op=12
  ·rw [if_pos c4]
   obtain ⟨a,ha⟩:=i7 c4
   have hk:kid e 0=a:=by unfold kid;rw [ha];rfl
   have g1:=wX (h2 a (by rw [ha];simp))
   have g2:=af2 (decide (lvI a.op<5)) (wE d a)
   rw [hk,ha,mI,mz]
   simp
   omega
  ·rw [if_neg c4]
   rw [oJ] at i1
   obtain ⟨a,b,ha⟩:=i8 (by omega)
   have hk:kid e 0=a:=by unfold kid;rw [ha];rfl
   have hk1:kid e 1=b:=by unfold kid;rw [ha];rfl
   have g1:=wX (h2 a (by rw [ha];simp))
   have g2:=af2 (decide (lvI a.op<lvI e.op)) (wE d a)
   have g3:=wX (h2 b (by rw [ha];simp))
   have g4:=af2 (decide (lvI b.op≤lvI e.op)) (wE d b)
   rw [hk,hk1,ha,mI,mI,mz]
   simp
   omega
theorem ba8:∀ (d:Nat) (e:kK) (list:List kJ) (around:Bool),lR d e=true→list.length+(wE d e).length+2*d+2≤100000→ld list e around=some (list++brW around (wE d e)):=by
 intro d
 induction d with
 | zero=>intro e list around h;rw [lR] at h;cases h
 | succ d ih =>
  intro e list around h hl
  have key:∀ list:List kJ,list.length+(wE (d+1) e).length+2*d+2≤100000→ld list e false=some (list++wE (d+1) e):=by
   intro list hl
   obtain ⟨h1,h2⟩:=qA h
   obtain ⟨i1,i2,_,_,_,i6,i7,i8,i9⟩:=s8 h1
   rw [ld]
   simp only [Bool.false_eq_true,if_false,w7,lW,kZ,obS,decide_eq_true_eq]
   have hwe:=hl
   rw [wE] at hwe ⊢
   by_cases c1:e.op=1
   ·rw [if_pos c1]
    rw [if_pos c1] at hwe ⊢
    obtain ⟨n,hn⟩:∃ n:Nat,e.n_=n:=⟨e.n_.toNat,by have:=i2 c1;omega⟩
    have hn2:=i2 c1
    rw [hn,(ae0 (by omega)).1,obS,nC (by simp at hwe ⊢;omega)];rfl
   rw [if_neg c1] at hwe ⊢
   rw [if_neg c1]
   by_cases c2:e.op=2
   ·rw [if_pos c2,if_pos c2] at *
    rw [nC (by simp at hwe ⊢;omega)];rfl
   rw [if_neg c2] at hwe ⊢
   rw [if_neg c2]
   by_cases c3:e.op=13
   ·rw [if_pos c3] at hwe ⊢
    rw [if_pos c3,nC (by simp at hwe ⊢;omega),obS]
    simp at hwe
    rcases mr (xs := e.kids) (body := (fun (uA : Int) (uB : (List kJ)) => ((kn e.kids uA).bind fun uC => (if decide (0 < uA) then (kZ (mkS [44])).bind fun uD => (lD uB ([uD] : List kJ)).bind fun uE => some uE else some uB : Option ((List kJ))).bind fun uF => (ld uF uC false).bind fun uG => some (.inl uG) : Option (((List kJ)) ⊕ (Empty))))) (s := list ++ [⟨1, e.name⟩, ⟨3, mkS [40]⟩]) (fun l s => s = list ++ ⟨1, e.name⟩ :: pL :: aW (l.map (wE d))) (fun _ => False) rfl (fun l x r s hx hI => .inl (by
     have hmo:=bn3 ((l++[x]).map (wE d)) (r.map (wE d))
     rw [← List.map_append,List.append_assoc,List.singleton_append,← hx,List.map_append,List.map_cons,List.map_nil,zD] at hmo
     have hfx:=h2 x (by rw [hx];simp)
     have hg:kn e.kids (l.length:Int)=some x:=by rw [hx,mA]
     subst hI
     by_cases hl0:l=[]
     ·subst hl0
      have e0:decide (0<(([]:List kK).length:Int))=false:=rfl
      simp at hmo
      refine ⟨_,?_,rfl⟩
      rw [hg,e0,obS]
      simp only [Bool.false_eq_true,if_false,obS]
      rw [ih x _ false hfx (by simp [aW];omega)]
      simp [aW,brW]
     ·have e0 : decide (0 < (l.length : Int)) = true := by have := List.length_pos_iff.2 hl0; simp; omega
      have hl1:l.map (wE d)≠[]:=by simpa using hl0
      rw [if_neg hl1] at hmo
      simp at hmo
      refine ⟨_,?_,rfl⟩
      rw [hg,e0,obS]
      simp only [if_true,kZ,obS]
      rw [nC (by simp;omega),obS,obS,ih x _ false hfx (by simp;omega)]
      rw [List.map_append,List.map_cons,List.map_nil,zD,if_neg hl1]
      simp [brW,cM])) with ⟨s,h3,h4⟩ | ⟨y,_,h4⟩
    ·simp only [Bool.false_eq_true,if_false,w7,lW,kZ,obS,decide_eq_true_eq] at h3
     rw [h3,h4]
     simp only [obS,Sum.elim_inl]
     rw [nC (by simp;omega)]
     simp [pR,obS]
    ·exact h4.elim
   rw [if_neg c3] at hwe ⊢
   rw [if_neg c3]
   by_cases c4:e.op=11∨e.op=12
   ·obtain ⟨a,ha⟩:=i7 c4
    have hk:kid e 0=a:=by unfold kid;rw [ha];rfl
    have hlv:lvI e.op=5:=by rcases c4 with h | h<;>rw [h]<;>rfl
    have hsg:(if decide (e.op=12) then some (mkS [64]) else some (mkS [33]):Option Str)=some (sgS e.op):=by rcases c4 with h | h<;>rw [h]<;>rfl
    have hg:kn e.kids 0=some a:=by rw [ha];rfl
    rw [if_pos c4,hk] at hwe ⊢
    have hb:=h2 a (by rw [ha];simp)
    have hbr:(wE d a).length≤(brW (decide (lvI a.op<5)) (wE d a)).length:=by unfold brW;split<;>simp;omega
    simp at hwe
    rw [if_pos hlv]
    simp only [decide_eq_true_eq] at hsg
    rw [hsg,hg,obS,obS,nC (by simp;omega),obS,ih a _ _ hb (by simp;omega)]
    simp [sgW]
   ·rw [oJ] at i1
    obtain ⟨a,b,ha⟩:=i8 (by omega)
    have hk:kid e 0=a:=by unfold kid;rw [ha];rfl
    have hk1:kid e 1=b:=by unfold kid;rw [ha];rfl
    have hlv:¬ lvI e.op=5:=by
     rcases ac6 (oJ.2 i1) with h | h | h<;>omega
    have hg:kn e.kids 0=some a:=by rw [ha];rfl
    have hg1:kn e.kids 1=some b:=by rw [ha];rfl
    rw [if_neg c4,hk,hk1] at hwe ⊢
    have hb:=h2 a (by rw [ha];simp)
    have hb1:=h2 b (by rw [ha];simp)
    have hbr:(wE d a).length≤(brW (decide (lvI a.op<lvI e.op)) (wE d a)).length:=by unfold brW;split<;>simp;omega
    have hbr1:(wE d b).length≤(brW (decide (lvI b.op≤lvI e.op)) (wE d b)).length:=by unfold brW;split<;>simp;omega
    simp at hwe
    rw [if_neg hlv,hg,hg1,obS,ih a _ _ hb (by omega),obS,bo9 (by omega),nC (by simp;omega),obS,obS,ih b _ _ hb1 (by simp;omega)]
    simp [sgW]
  cases around with
  | false=>rw [key list (by omega)];rfl
  | true =>
   rw [ld]
   simp only [if_true,kZ,obS]
   rw [nC (by simp;omega),obS,key _ (by simp;omega),obS,nC (by simp;omega)]
   simp [brW,pL,pR]
end Prg
end Go.Wk
namespace Go.Wk
open Go
namespace Prg
set_option maxRecDepth 10000
theorem al4 {op:Int}:oZ (sgW op)=true:=by
 unfold sgW sgS
 repeat' split
 all_goals rfl
theorem ql {a b:List kJ} (ha:vW a) (hb:vW b):vW (a++b):=λw hw=>by
 rcases List.mem_append.1 hw with h | h
 ·exact ha w h
 ·exact hb w h
theorem mN {w:kJ} {b:List kJ} (ha:oZ w=true) (hb:vW b):vW (w::b):=λx hx=>by
 rcases List.mem_cons.1 hx with rfl | h
 ·exact ha
 ·exact hb x h
theorem qx:vW []:=λw hw=>by cases hw
theorem xq {b:Bool} {ws:List kJ} (h:vW ws):vW (brW b ws):=by
 unfold brW
 split
 ·exact mN rfl (ql h (mN rfl qx))
 ·exact h
theorem aj0:∀ {l:List (List kJ)},(∀ x∈l,vW x)→vW (aW l)
 | [],_=>qx
 | x::r,h=>by
  unfold aW
  refine ql (h x (by simp)) λw hw=>?_
  obtain ⟨y,hy,hw⟩:=List.mem_flatten.1 hw
  obtain ⟨z,hz,rfl⟩:=List.mem_map.1 hy
  exact mN (w:=cM) rfl (h z (by simp [hz])) w hw
theorem rz:∀ {d:Nat} {e:kK},lR d e=true→vW (wE d e)
 | 0,e,h=>by rw [lR] at h;cases h
 | d+1,e,h=>by
  obtain ⟨h1,h2⟩:=qA h
  obtain ⟨i1,i2,_,i4,_,i6,i7,i8,i9⟩:=s8 h1
  rw [wE]
  by_cases c1:e.op=1
  ·rw [if_pos c1]
   refine mN ?_ qx
   obtain ⟨n,hn⟩:∃ n:Nat,e.n_=n:=⟨e.n_.toNat,by have:=i2 c1;omega⟩
   have hn2:=i2 c1
   have:=ac7 (n:=n) (by omega)
   show decide (0≤q7 (xf e.n_))=true
   rw [hn,this];simp
  rw [if_neg c1]
  by_cases c2:e.op=2
  ·rw [if_pos c2]
   exact mN (i4 (.inl c2)) qx
  rw [if_neg c2]
  by_cases c3:e.op=13
  ·rw [if_pos c3]
   refine mN (i4 (.inr c3)) (mN rfl (ql (aj0 λx hx=>?_) (mN rfl qx)))
   obtain ⟨k,hk,rfl⟩:=List.mem_map.1 hx
   exact rz (h2 k hk)
  rw [if_neg c3]
  by_cases c4:e.op=11∨e.op=12
  ·rw [if_pos c4]
   obtain ⟨a,ha⟩:=i7 c4
   have hk:kid e 0=a:=by unfold kid;rw [ha];rfl
   rw [hk]
   exact mN al4 (xq (rz (h2 a (by rw [ha];simp))))
  ·rw [if_neg c4]
   rw [oJ] at i1
   obtain ⟨a,b,ha⟩:=i8 (by omega)
   have hk:kid e 0=a:=by unfold kid;rw [ha];rfl
   have hk1:kid e 1=b:=by unfold kid;rw [ha];rfl
   rw [hk,hk1]
   exact ql (xq (rz (h2 a (by rw [ha];simp)))) (mN al4 (xq (rz (h2 b (by rw [ha];simp)))))
theorem o7 {s t:Str} (h:s.b.length+t.b.length≤100000000):∃ u,ll s t=some u∧u.b=s.b++t.b:=⟨⟨s.b++t.b,by simp;omega⟩,kq.2 ⟨by omega,rfl⟩,rfl⟩
theorem rZ {d:Nat} {e:kK} (h:lR d e=true):(txt (wE d e)).length≤30*lz e:=by
 have h1:=sO _ (rz h)
 have h2:=wX h
 omega
theorem bj7 {ws:List kJ} (h:ws≠[]):txt (brW true ws)=[40,32]++txt ws++[32,41]:=by
 show txt (pL::(ws++[pR]))=_
 rw [mS (by simp),nt h (by simp),oQ]
 simp [pL,pR,mkS]
theorem w5 (b:Bool) {ws:List kJ} (h:ws≠[]):(txt (brW b ws)).length≤(txt ws).length+4:=by
 cases b with
 | true=>rw [bj7 h];simp
 | false=>show (txt ws).length≤_;omega
theorem bi6 (op:Int):(sgS op).b.length=1:=by
 unfold sgS
 repeat' split
 all_goals rfl
theorem bl0:∀ (d:Nat) (e:kK) (need:Int),lR d e=true→lz e≤1000→∃ T,nK e need=some T∧T.b=txt (brW (decide (lvI e.op<need)) (wE d e)):=by
 intro d
 induction d with
 | zero=>intro e need h;rw [lR] at h;cases h
 | succ d ih =>
  intro e need h hp
  have hlen:=rZ h
  have hne:=vg h
  obtain ⟨h1,h2⟩:=qA h
  obtain ⟨i1,i2,_,i4,_,i6,i7,i8,i9⟩:=s8 h1
  have hpe:=oo e
  have core:∃ T:Str,T.b=txt (wE (d+1) e)∧nK e need=(if decide (lvI e.op<need) then (ll (mkS [40,32]) T).bind λuC=>(ll uC (mkS [32,41])).bind λuD=>some uD else some T):=by
   rw [nK,al7]
   simp only [obS]
   rw [wE]
   by_cases c1:e.op=1
   ·obtain ⟨n, hn⟩ : ∃ n : Nat, e.n_ = n := ⟨e.n_.toNat, by have := i2 c1; omega⟩
    have hn2:=i2 c1
    refine ⟨xf e.n_,?_,?_⟩
    ·rw [if_pos c1,oQ]
    ·have e1:decide (e.op=1)=true:=decide_eq_true c1
     rw [e1,hn,ay2 (by omega)];rfl
   have e1:decide (e.op=1)=false:=decide_eq_false c1
   by_cases c2:e.op=2
   ·refine ⟨e.name,?_,?_⟩
    ·rw [if_neg c1,if_pos c2,oQ]
    ·have e2:decide (e.op=2)=true:=decide_eq_true c2
     rw [e1,e2];rfl
   have e2:decide (e.op=2)=false:=decide_eq_false c2
   rw [e1,e2,if_neg c1,if_neg c2]
   by_cases c3:e.op=13
   ·have e3:decide (e.op=13)=true:=decide_eq_true c3
    rw [e3,if_pos c3]
    have h40:(mkS [32,40]).b.length=2:=rfl
    have h41:(mkS [32,41]).b.length=2:=rfl
    have h44:(mkS [32,44]).b.length=2:=rfl
    have h32:(mkS [32]).b.length=1:=rfl
    have hnm:e.name.b.length≤4:=by
     have:=i4 (.inr c3)
     unfold lu at this
     simp only [Bool.and_eq_true,decide_eq_true_iff] at this
     exact this.1.2
    obtain ⟨u,u1,u2⟩:=o7 (s:=e.name) (t:=mkS [32,40]) (by omega)
    have hu:=congrArg List.length u2
    rw [List.length_append,h40] at hu
    simp only [Bool.false_eq_true,if_false,if_true,u1,obS]
    have hpk:=hp
    rcases mr (xs := e.kids) (body := (fun (uA : Int) (uB : Str) => ((if decide (0 < uA) then (ll uB (mkS [32, 44])).bind fun uE => some uE else some uB : Option (Str)).bind fun uF => (ll uF (mkS [32])).bind fun uG => (kn e.kids uA).bind fun uH => (nK uH 1).bind fun uI => (ll uG uI).bind fun uJ => some (.inl uJ) : Option ((Str) ⊕ (Empty))))) (s := u) (fun l s => s.b = txt (⟨1, e.name⟩ :: pL :: aW (l.map (wE d))) ∧ s.b.length ≤ 6 + 40 * mL l) (fun _ => False) ⟨by rw [u2]; show _ = txt [⟨1, e.name⟩, pL]; rw [mS (by simp), oQ]; rfl, by omega⟩ (fun l x r s hx hI => .inl (by
     obtain ⟨hI,hI2⟩:=hI
     have hfx:=h2 x (by rw [hx];simp)
     have hpx:=sP (k:=x) (l:=e.kids) (by rw [hx];simp)
     have hpl:mL e.kids=mL l+(lz x+mL r):=by rw [hx,pg,mI]
     have hps:mL (l++[x])=mL l+lz x:=by rw [pg,mI,mz];omega
     obtain ⟨T,t1,t2⟩:=ih x 1 hfx (by omega)
     have hlv:decide (lvI x.op<1)=false:=by
      have h0:rk x=true:=by
       cases d with
       | zero=>rw [lR] at hfx;cases hfx
       | succ d=>exact (qA hfx).1
      rcases ac6 (s8 h0).1 with h | h | h<;>(apply decide_eq_false;omega)
     rw [hlv] at t2
     have t2:T.b=txt (wE d x):=t2
     have hlx:=rZ hfx
     have hpx1:1≤lz x:=by rw [oo];omega
     have hg:kn e.kids (l.length:Int)=some x:=by rw [hx,mA]
     by_cases hl0:l=[]
     ·subst hl0
      have e0:decide (0<(([]:List kK).length:Int))=false:=rfl
      obtain ⟨y,y1,y2⟩:=o7 (s:=s) (t:=mkS [32]) (by omega)
      have hy:=congrArg List.length y2
      rw [List.length_append,h32] at hy
      obtain ⟨z,z1,z2⟩:=o7 (s:=y) (t:=T) (by rw [t2];omega)
      have hz:=congrArg List.length z2
      rw [List.length_append,t2] at hz
      refine ⟨z,?_,?_,by rw [hps];omega⟩
      ·simp only [e0,Bool.false_eq_true,if_false,y1,hg,t1,z1,obS]
      ·have e4 : aW (([] ++ [x]).map (wE d)) = wE d x := by simp [aW]
       rw [z2,y2,hI,t2,e4]
       show txt [⟨1,e.name⟩,pL]++(mkS [32]).b++_=txt ([⟨1,e.name⟩,pL]++wE d x)
       rw [nt (by simp) (vg hfx)]
       simp [mkS]
     ·have e0 : decide (0 < (l.length : Int)) = true := by have := List.length_pos_iff.2 hl0; simp; omega
      have hl1:l.map (wE d)≠[]:=by simpa using hl0
      obtain ⟨q,q1,q2⟩:=o7 (s:=s) (t:=mkS [32,44]) (by omega)
      have hq:=congrArg List.length q2
      rw [List.length_append,h44] at hq
      obtain ⟨y,y1,y2⟩:=o7 (s:=q) (t:=mkS [32]) (by omega)
      have hy:=congrArg List.length y2
      rw [List.length_append,h32] at hy
      obtain ⟨z,z1,z2⟩:=o7 (s:=y) (t:=T) (by rw [t2];omega)
      have hz:=congrArg List.length z2
      rw [List.length_append,t2] at hz
      refine ⟨z,?_,?_,by rw [hps];omega⟩
      ·simp only [e0,if_true,q1,y1,hg,t1,z1,obS]
      ·rw [z2,y2,q2,hI,t2,List.map_append,List.map_cons,List.map_nil,zD,if_neg hl1]
       show _=txt ((⟨1,e.name⟩::pL::aW (l.map (wE d)))++cM::wE d x)
       rw [nt (by simp) (by simp),mS (w:=cM) (vg hfx)]
       simp [mkS,cM])) with ⟨s,h3,h4,h5⟩ | ⟨y,_,h4⟩
    ·obtain ⟨z, z1, z2⟩ := o7 (s := s) (t := mkS [32, 41]) (by omega)
     refine ⟨z,?_,?_⟩
     ·rw [z2,h4]
      show _=txt ((⟨1,e.name⟩::pL::aW (e.kids.map (wE d)))++[pR])
      rw [nt (by simp) (by simp),oQ]
      simp [mkS,pR]
     ·rw [h3]
      simp only [obS,Sum.elim_inl,z1]
    ·exact h4.elim
   have e3:decide (e.op=13)=false:=decide_eq_false c3
   rw [e3,if_neg c3]
   by_cases c4:e.op=11∨e.op=12
   ·have hlv : lvI e.op = 5 := by rcases c4 with h | h <;> rw [h] <;> rfl
    obtain ⟨a,ha⟩:=i7 c4
    have hk:kid e 0=a:=by unfold kid;rw [ha];rfl
    have hg:kn e.kids 0=some a:=by rw [ha];rfl
    have hfa:=h2 a (by rw [ha];simp)
    have hpa:lz a≤1000:=by have:=sP (k:=a) (l:=e.kids) (by rw [ha];simp);omega
    obtain ⟨T,t1,t2⟩:=ih a 5 hfa hpa
    have hla:=rZ hfa
    have hlb:=w5 (decide (lvI a.op<5)) (vg hfa)
    have hsg:=bi6 e.op
    have h32:(mkS [32]).b.length=1:=rfl
    obtain ⟨u,u1,u2⟩:=o7 (s:=sgS e.op) (t:=mkS [32]) (by omega)
    have hu:=congrArg List.length u2
    rw [List.length_append,h32,hsg] at hu
    obtain ⟨v,v1,v2⟩:=o7 (s:=u) (t:=T) (by rw [t2];omega)
    refine ⟨v,?_,?_⟩
    ·rw [if_pos c4,hk,mS (an7 (vg hfa)),v2,u2,t2]
     simp [sgW,mkS]
    ·have e5:decide (lvI e.op=5)=true:=decide_eq_true hlv
     simp only [Bool.false_eq_true,if_false,e5,if_true,hg,ak7 (show 3≤e.op∧e.op≤12 by omega),u1,t1,v1,obS]
   ·rw [oJ] at i1
    have hlv:lvI e.op=1∨lvI e.op=2∨lvI e.op=3∨lvI e.op=4:=by
     rcases ac6 (oJ.2 i1) with h | h | h<;>omega
    obtain ⟨a,b,ha⟩:=i8 (by omega)
    have hk:kid e 0=a:=by unfold kid;rw [ha];rfl
    have hk1:kid e 1=b:=by unfold kid;rw [ha];rfl
    have hg:kn e.kids 0=some a:=by rw [ha];rfl
    have hg1:kn e.kids 1=some b:=by rw [ha];rfl
    have hfa:=h2 a (by rw [ha];simp)
    have hfb:=h2 b (by rw [ha];simp)
    have hpa:lz a≤1000:=by have:=sP (k:=a) (l:=e.kids) (by rw [ha];simp);omega
    have hpb:lz b≤1000:=by have:=sP (k:=b) (l:=e.kids) (by rw [ha];simp);omega
    have ew:w64 (lvI e.op+1)=lvI e.op+1:=lV (by omega) (by omega)
    have eb:decide (lvI b.op<lvI e.op+1)=decide (lvI b.op≤lvI e.op):=by rw [decide_eq_decide];omega
    obtain ⟨T,t1,t2⟩:=ih a (lvI e.op) hfa hpa
    obtain ⟨T2,s1,s2⟩:=ih b (lvI e.op+1) hfb hpb
    rw [eb] at s2
    have hla:=rZ hfa
    have hlb:=w5 (decide (lvI a.op<lvI e.op)) (vg hfa)
    have hla2:=rZ hfb
    have hlb2:=w5 (decide (lvI b.op≤lvI e.op)) (vg hfb)
    have hsg:=bi6 e.op
    have h32:(mkS [32]).b.length=1:=rfl
    obtain ⟨u,u1,u2⟩:=o7 (s:=T) (t:=mkS [32]) (by rw [t2,h32];omega)
    have hu:=congrArg List.length u2
    rw [List.length_append,h32,t2] at hu
    obtain ⟨v,v1,v2⟩:=o7 (s:=u) (t:=sgS e.op) (by omega)
    have hv:=congrArg List.length v2
    rw [List.length_append,hsg] at hv
    obtain ⟨x,x1,x2⟩:=o7 (s:=v) (t:=mkS [32]) (by omega)
    have hx:=congrArg List.length x2
    rw [List.length_append,h32] at hx
    obtain ⟨y,y1,y2⟩:=o7 (s:=x) (t:=T2) (by rw [s2];omega)
    refine ⟨y,?_,?_⟩
    ·rw [if_neg c4, hk, hk1, nt (an7 (vg hfa)) (by simp), mS (an7 (vg hfb)), y2, x2, v2, u2, t2, s2]
     simp [sgW,mkS]
    ·have e5 : decide (lvI e.op = 5) = false := decide_eq_false (by omega)
     simp only [Bool.false_eq_true,if_false,e5,hg,hg1,ak7 (show 3≤e.op∧e.op≤12 by omega),ew,u1,t1,v1,x1,s1,y1,obS]
  obtain ⟨T,t1,t2⟩:=core
  rw [t2]
  cases hb:decide (lvI e.op<need) with
  | false=>exact ⟨T,rfl,t1⟩
  | true =>
   have h40:(mkS [40,32]).b.length=2:=rfl
   have h41:(mkS [32,41]).b.length=2:=rfl
   obtain ⟨u,u1,u2⟩:=o7 (s:=mkS [40,32]) (t:=T) (by rw [t1,h40];omega)
   have hu:=congrArg List.length u2
   rw [List.length_append,h40,t1] at hu
   obtain ⟨v,v1,v2⟩:=o7 (s:=u) (t:=mkS [32,41]) (by omega)
   refine ⟨v,?_,?_⟩
   ·rw [if_pos rfl,u1,obS,v1];rfl
   ·rw [v2,u2,t1,bj7 hne];rfl
end Prg
end Go.Wk
namespace Go.Wk
open Go
namespace Prg
set_option maxRecDepth 10000
def sY (ws:List kJ):Str × Bool:=if ws.length≤600∧(txt ws).length≤3000 then (toS (txt ws),true) else (mkS [],false)
theorem au9 (ws:List kJ) (h:vW ws):ou ws=some (sY ws):=by
 unfold ou
 by_cases h6:ws.length≤600
 ·have e1 : decide (600 < (ws.length : Int)) = false := by simp; omega
  rw [e1]
  simp only [Bool.false_eq_true,if_false]
  rw [ai0 (by omega) (by omega),obS,show ((ws.length:Int)).toNat=ws.length by omega]
  rw [am3 (xs:=ws) (body:=(λ(uA:Int) (uB:(List Str))=>((kn ws uA).bind λuC=>(oM uC).bind λuD=>if !(uD) then some (.inr ((mkS []),false)) else (kn uB uA).bind λuE=>some (.inl (uB.set (uA).toNat uC.text)):Option (((List Str)) ⊕ (Str × Bool))))) (λw=>w.text) (λl x r ys he hl=>by
   have hx:=h x (by rw [he];simp)
   have hg:kn ws (l.length:Int)=some x:=by rw [he,mA]
   rw [hg,obS,xC,hx,obS,show ((l.length:Int)).toNat=l.length by omega,sg,List.getElem?_eq_getElem hl];rfl)]
  have hb:=sO ws h
  have hm:(ws.map (λw=>w.text)).map (·.b)=ws.map (λw=>w.text.b):=by simp
  have hj:strings_Join (ws.map (λw=>w.text)) (mkS [32])=some (toS (txt ws)):=by
   unfold strings_Join at0
   have h1:(Lib.join ((ws.map (λw=>w.text)).map (·.b)) (mkS [32]).b).length≤140737488355328:=by
    rw [hm];show (txt ws).length≤_;omega
   rw [dif_pos h1,if_pos (by simp;omega)]
   refine congrArg some (Str.ext' ?_)
   rw [vq (by omega)]
   show Lib.join ((ws.map (λw=>w.text)).map (·.b)) [32]=txt ws
   rw [hm];rfl
  simp only [obS,Sum.elim_inl,hj]
  have hl:(toS (txt ws)).b.length=(txt ws).length:=by rw [vq (by omega)]
  rw [hl]
  by_cases h7:(txt ws).length≤3000
  ·have hv:sY ws=(toS (txt ws),true):=if_pos ⟨h6,h7⟩
   rw [hv,if_neg (by simp;omega)]
  ·have hv:sY ws=(mkS [],false):=if_neg λh'=>h7 h'.2
   rw [hv,if_pos (decide_eq_true (by omega))]
 ·have hv:sY ws=(mkS [],false):=if_neg λh'=>h6 h'.1
  rw [hv,if_pos (decide_eq_true (by omega))]
def cf8 (e:kK):Str × Bool:=if nJ e then (toS (txt (wE 6 e)),true) else (mkS [],false)
theorem tl {e:kK} (h:nJ e=true):lR 6 e=true∧lz e≤30:=by
 unfold nJ at h
 rw [Bool.and_eq_true,decide_eq_true_iff] at h
 exact h
theorem zg {e:kK} {d:Nat} (h:lR d e=true):1≤lvI e.op:=by
 have h0:rk e=true:=by
  cases d with
  | zero=>rw [lR] at h;cases h
  | succ d=>exact (qA h).1
 rcases ac6 (s8 h0).1 with h | h | h<;>omega
theorem ae9 {ws:List kJ} (h:vW ws) (h1:ws.length≤600) (h2:(txt ws).length≤3000):xr (toS (txt ws))=some ws:=by
 unfold xr
 rw [vq (by omega),if_pos h2,ag4 ws h]
 simp [h1]
theorem ax4 {ws:List kJ} (h:vW ws) (h1:ws.length≤600) (h2:(txt ws).length≤3000):qX (toS (txt ws))=some (toS (txt ws),true):=by
 unfold qX
 rw [vl,sT (ae9 h h1 h2),obS]
 show (ou ws).bind _=_
 rw [au9 ws h,obS]
 unfold sY
 rw [if_pos ⟨h1,h2⟩]
theorem ca4:∀ e:kK,nA e e=some true:=by
 intro e
 induction e using zE with
 | h e ih =>
  have hs:kY e.kids e.kids (λy0 y1=>nA y0 y1)=some true:=by
   unfold kY
   rw [if_neg (by simp)]
   generalize e.kids=ks at ih
   rw [qT (xs:=ks) (body:=(λ(uA:Int) (uE:Unit)=>((kn ks uA).bind λuB=>(kn ks uA).bind λuC=>((λy0 y1 ↦ nA y0 y1) uB uC).bind λuD=>if !(uD) then some (.inr false) else some (.inl ()):Option ((Unit) ⊕ (Bool))))) (λ_=>false) false (λl x r he=>by
    rw [he,mA,obS,obS]
    show (nA x x).bind _=_
    rw [ih x (by rw [he];simp)];rfl)]
   have:ks.any (λ_=>false)=false:=by simp
   rw [this];rfl
  rw [nA]
  simp only [decide_true,if_true,hs,obS]
end Prg
end Go.Wk
namespace Go.Wk
open Go
namespace Prg
set_option maxRecDepth 10000
def uf (need:Int) (r:List kJ):Prop:=(∀ m:Int,need≤m→m≤4→opT m r=0)∧isT r (mkS [40])=false
theorem az2 {a b:Int} {r:List kJ} (h:uf a r) (hab:a≤b):uf b r:=⟨λm h1 h2=>h.1 m (by omega) h2,h.2⟩
theorem ba6 (a:Int):uf a []:=⟨λ_ _ _=>rfl,rfl⟩
theorem av3 {w:kJ} (h:w.text=mkS [41]∨w.text=mkS [44]) (m:Int):opW m w=0:=by
 unfold opW
 rcases h with h | h<;>rw [h]<;>(repeat' split)<;>first | rfl | (rename_i h';revert h';decide)
theorem ag9 (a:Int) (r:List kJ):uf a (pR::r):=⟨λm _ _=>av3 (.inl rfl) m,rfl⟩
theorem at7 (a:Int) (r:List kJ):uf a (cM::r):=⟨λm _ _=>av3 (.inr rfl) m,rfl⟩
theorem cc9 {op:Int} (h:3≤op∧op≤10):opW (lvI op) (sgW op)=op∧(∀ m:Int,lvI op<m→m≤4→opW m (sgW op)=0)∧(sgW op).text≠mkS [40]:=by
 have:op=3∨op=4∨op=5∨op=6∨op=7∨op=8∨op=9∨op=10:=by omega
 rcases this with rfl | rfl | rfl | rfl | rfl | rfl | rfl | rfl<;>refine ⟨by decide,λm hm hm4=>?_,by decide⟩<;>simp [lvI] at hm<;>unfold opW<;>(repeat' split)<;>first | rfl | omega | (rename_i h';revert h';decide)
theorem bm0:∀ (k:Nat) {hi lo:Int} {ws:List kJ} {e:kK} {r:List kJ},hi=lo+k→1≤lo→hi≤5→Rd (.E hi ws e r)→(∀ m:Int,lo≤m→m<hi→opT m r=0)→Rd (.E lo ws e r)
 | 0,hi,lo,ws,e,r,h,_,_,h3,_=>by
  have:lo=hi:=by omega
  rw [this];exact h3
 | k+1,hi,lo,ws,e,r,h,h1,h2,h3,h4=>by
  have:=bm0 k (hi:=hi) (lo:=lo+1) (by omega) (by omega) h2 h3 λm g1 g2=>h4 m (by omega) g2
  exact .up (by omega) this (.stop (h4 lo (by omega) (by omega)))
def cb3:Job→Prop
 | .E _ ws _ _=>vW ws→isT ws (mkS [41])=false
 | .L _ _ _ _ _=>True
 | .A _ _ _=>True
 | .M _ _ _ _=>True
theorem bq9 {j:Job} (h:Rd j):cb3 j:=by
 induction h<;>try trivial
 case neg w ws e r hw _ _=>intro _;exact decide_eq_false (by rw [hw];decide)
 case at_ w ws e r hw _ _=>intro _;exact decide_eq_false (by rw [hw];decide)
 case par w ws e v r hw _ _ _=>intro _;exact decide_eq_false (by rw [hw];decide)
 case num w r hw=>intro hv;exact decide_eq_false (qu (qM hv) (by omega) rfl (by decide))
 case var w r hw _=>intro hv;exact decide_eq_false (qu (qM hv) (by omega) rfl (by decide))
 case call w v ws ks r hw _ _ _=>intro hv;exact decide_eq_false (qu (qM hv) (by omega) rfl (by decide))
def ap3 (d:Nat) (e:kK):Prop:=∀ (need:Int) (r:List kJ),1≤need→need≤5→uf need r→Rd (.E need (brW (decide (lvI e.op<need)) (wE d e)++r) e r)
def bt9 (d:Nat) (e:kK):Prop:=∀ (lv:Int) (ws:List kJ) (e':kK) (r:List kJ),(lv=1∨lv=2∨lv=3∨lv=4)→uf (lv+1) ws→Rd (.L lv e ws e' r)→Rd (.E lv (brW (decide (lvI e.op<lv)) (wE d e)++ws) e' r)
theorem ar3 {d:Nat}:∀ (ks:List kK) (acc:List kK) (r:List kJ),(∀ k∈ks,ap3 d k∧lR d k=true)→Rd (.M acc (((ks.map (wE d)).map (cM::·)).flatten++pR::r) (acc++ks) r)
 | [],acc,r,_=>by rw [List.append_nil];exact .last rfl
 | k::ks,acc,r,h=>by
  have ih:=ar3 ks (acc++[k]) r λx hx=>h x (by simp [hx])
  have hk := (h k (by simp)).1 1 ((((ks.map (wE d)).map (cM :: ·)).flatten) ++ pR :: r) (by omega) (by omega) (by
   cases ks with
   | nil=>exact ag9 1 r
   | cons y ks=>exact at7 1 _)
  have hl:decide (lvI k.op<1)=false:=decide_eq_false (by have:=zg (h k (by simp)).2;omega)
  rw [hl] at hk
  have:=Rd.more (acc:=acc) (v:=cM) rfl hk (by rw [List.append_assoc] at ih;exact ih)
  simpa [brW] using this
theorem bu2:∀ (d:Nat) (e:kK),lR d e=true→ap3 d e∧bt9 d e:=by
  intro d
  induction d with
  | zero=>intro e h;rw [lR] at h;cases h
  | succ d ih =>
    intro e h
    obtain ⟨h1,h2⟩:=qA h
    obtain ⟨i1,i2,i3,i4,i5,i6,i7,i8,i9⟩:=s8 h1
    have hlv1:=zg h
    have U5:5≤lvI e.op→∀ r,isT r (mkS [40])=false→Rd (.E 5 (wE (d+1) e++r) e r):=by
      intro h5 r hr
      rw [wE]
      by_cases c1:e.op=1
      · rw [if_pos c1]
        have he:e=⟨1,ac1 ⟨2,xf e.n_⟩,mkS [],[]⟩:=by
          obtain ⟨n,hn⟩:∃ n:Nat,e.n_=n:=⟨e.n_.toNat,by have:=i2 c1;omega⟩
          have hn2:=i2 c1
          have hw:ac1 ⟨2,xf e.n_⟩=e.n_:=by
            unfold ac1;rw [if_pos rfl,hn];exact ac7 (by omega)
          rw [hw]
          have g1:=i6 (.inl c1)
          have g2:=i5 (by omega)
          cases e
          simp at c1 g1 g2 ⊢
          exact ⟨c1,g2,g1⟩
        conv=>rhs
        have:=Rd.num (w:=⟨2,xf e.n_⟩) (r:=r) rfl
        rw [← he] at this
        exact this
      rw [if_neg c1]
      have hn0 : e.n_ = 0 := by rcases i3 with h | h
                                · exact absurd h c1
                                · exact h
      by_cases c2:e.op=2
      · rw [if_pos c2]
        have he:e=⟨2,0,e.name,[]⟩:=by
          have g1:=i6 (.inr c2)
          cases e
          simp at c2 g1 hn0 ⊢
          exact ⟨c2,hn0,g1⟩
        have:=Rd.var (w:=⟨1,e.name⟩) (r:=r) rfl hr
        rw [← he] at this
        exact this
      rw [if_neg c2]
      by_cases c3:e.op=13
      · rw [if_pos c3]
        have he:e=⟨13,0,e.name,e.kids⟩:=by
          cases e
          simp at c3 hn0 ⊢
          exact ⟨c3,hn0⟩
        have hA:Rd (.A (aW (e.kids.map (wE d))++pR::r) e.kids r):=by
          generalize e.kids=ks at h2
          cases ks with
          | nil=>exact .done rfl
          | cons k ks =>
            have hk := (ih k (h2 k (by simp))).1 1 ((((ks.map (wE d)).map (cM :: ·)).flatten) ++ pR :: r) (by omega) (by omega) (by
              cases ks with
              | nil=>exact ag9 1 r
              | cons y ks=>exact at7 1 _)
            have hl:decide (lvI k.op<1)=false:=decide_eq_false (by have:=zg (h2 k (by simp));omega)
            rw [hl] at hk
            have hM:=ar3 ks [k] r λx hx=>⟨(ih x (h2 x (by simp [hx]))).1,h2 x (by simp [hx])⟩
            have hw:aW ((k::ks).map (wE d))++pR::r=brW false (wE d k)++((((ks.map (wE d)).map (cM::·)).flatten)++pR::r):=by simp [aW,brW]
            rw [hw]
            refine .first ?_ hk hM
            have hne:=vg (h2 k (by simp))
            have hv:=rz (h2 k (by simp))
            have hr1:=(ih k (h2 k (by simp))).1 1 [] (by omega) (by omega) (ba6 1)
            rw [hl] at hr1
            have hh:isT (wE d k++[]) (mkS [41])=false:=bq9 hr1 (show vW (wE d k++[]) by rw [List.append_nil];exact hv)
            cases hwk:wE d k with
            | nil=>exact absurd hwk hne
            | cons w l=>rw [hwk] at hh;exact hh
        have:=Rd.call (w:=⟨1,e.name⟩) (v:=pL) rfl rfl hA
        rw [← he] at this
        simpa using this
      rw [if_neg c3]
      rcases ac6 i1 with g | g | g
      · omega
      · rw [if_pos g.1]
        obtain ⟨a,ha⟩:=i7 g.1
        have hk:kid e 0=a:=by unfold kid;rw [ha];rfl
        have hnm:=i5 (by omega)
        have hr5:=(ih a (h2 a (by rw [ha];simp))).1 5 r (by omega) (by omega) ⟨λm g1 g2=>by omega,hr⟩
        rw [hk,List.cons_append]
        rcases g.1 with g1 | g1
        · have he:e=⟨11,0,mkS [],[a]⟩:=by
            cases e
            simp at g1 hn0 ha hnm ⊢
            exact ⟨g1,hn0,hnm,ha⟩
          have:=Rd.neg (w:=sgW e.op) (by rw [g1];rfl) hr5
          rw [← he] at this
          exact this
        · have he:e=⟨12,0,mkS [],[a]⟩:=by
            cases e
            simp at g1 hn0 ha hnm ⊢
            exact ⟨g1,hn0,hnm,ha⟩
          have:=Rd.at_ (w:=sgW e.op) (by rw [g1];rfl) hr5
          rw [← he] at this
          exact this
      · omega
    have UC:lvI e.op≤4→∀ ws e' r,uf (lvI e.op+1) ws→Rd (.L (lvI e.op) e ws e' r)→Rd (.E (lvI e.op) (wE (d+1) e++ws) e' r):=by
      intro h4 ws e' r hs hL
      rcases ac6 i1 with g | g | g
      · omega
      · omega
      obtain ⟨a,b,ha⟩:=i8 g.1
      have hk:kid e 0=a:=by unfold kid;rw [ha];rfl
      have hk1:kid e 1=b:=by unfold kid;rw [ha];rfl
      have hnm:=i5 (by omega)
      have hn0 : e.n_ = 0 := by rcases i3 with h | h
                                · omega
                                · exact h
      have he:e=⟨e.op,0,mkS [],[a,b]⟩:=by
        cases e
        simp at hn0 ha hnm ⊢
        exact ⟨hn0,hnm,ha⟩
      obtain ⟨s1,s2,s3⟩:=cc9 g.1
      have hb:=(ih b (h2 b (by rw [ha];simp))).1 (lvI e.op+1) ws (by omega) (by omega) hs
      have eb:decide (lvI b.op<lvI e.op+1)=decide (lvI b.op≤lvI e.op):=by rw [decide_eq_decide];omega
      rw [eb] at hb
      have hstep:Rd (.L (lvI e.op) a (sgW e.op::(brW (decide (lvI b.op≤lvI e.op)) (wE d b)++ws)) e' r):=by
        refine .step (by rw [s1];omega) hb ?_
        rw [s1,← he]
        exact hL
      have hA:=(ih a (h2 a (by rw [ha];simp))).2 (lvI e.op) (sgW e.op::(brW (decide (lvI b.op≤lvI e.op)) (wE d b)++ws)) e' r g.2 ⟨λm g1 g2=>show opW m (sgW e.op)=0 from s2 m (by omega) g2,decide_eq_false s3⟩ hstep
      rw [wE,if_neg (by omega),if_neg (by omega),if_neg (by omega),if_neg (by omega),hk,hk1]
      simpa using hA
    have UE:∀ need r,1≤need→need≤5→need≤lvI e.op→uf need r→Rd (.E need (wE (d+1) e++r) e r):=by
      intro need r n1 n2 n3 hs
      by_cases h5:5≤lvI e.op
      · exact bm0 (hi:=5) (lo:=need) (5 - need).toNat (by omega) n1 (by omega) (U5 h5 r hs.2) λm g1 g2=>hs.1 m g1 (by omega)
      · have := UC (by omega) r e r (az2 hs (by omega)) (.stop (hs.1 _ n3 (by omega)))
        exact bm0 (hi:=lvI e.op) (lo:=need) (lvI e.op - need).toNat (by omega) n1 (by omega) this λm g1 g2=>hs.1 m g1 (by omega)
    have BE:∀ need r,1≤need→need≤5→uf need r→Rd (.E need (brW true (wE (d+1) e)++r) e r):=by
      intro need r n1 n2 hs
      have:=Rd.par (w:=pL) rfl (UE 1 (pR::r) (by omega) (by omega) hlv1 (ag9 1 r)) rfl
      refine bm0 (hi:=5) (lo:=need) (5 - need).toNat (by omega) n1 (by omega) ?_ λm g1 g2=>hs.1 m g1 (by omega)
      simpa [brW] using this
    have CE:ap3 (d+1) e:=by
      intro need r n1 n2 hs
      by_cases hc:lvI e.op<need
      · rw [decide_eq_true hc];exact BE need r n1 n2 hs
      · rw [decide_eq_false hc];exact UE need r n1 n2 (by omega) hs
    refine ⟨CE,λlv ws e' r hlv hs hL=>?_⟩
    by_cases hc:lvI e.op=lv
    · subst hc
      rw [decide_eq_false (by omega)]
      exact UC (by omega) ws e' r hs hL
    · have eb : decide (lvI e.op < lv) = decide (lvI e.op < lv + 1) := by rw [decide_eq_decide]; omega
      rw [eb]
      exact .up hlv (CE (lv+1) ws (by omega) (by omega) hs) hL
end Prg
end Go.Wk
namespace Go.Wk
open Go
namespace Prg
set_option maxRecDepth 10000
def Dr {A:Type} (o:Option A) (Q:A→Prop):Prop:=∃ a,o=some a∧Q a
theorem Dr.some {A:Type} {a:A} {Q:A→Prop} (h:Q a):Dr (some a) Q:=⟨a,rfl,h⟩
theorem Dr.bind {A B:Type} {o:Option A} {f:A→Option B} {P:A→Prop} {Q:B→Prop} (h:Dr o P) (k:∀ a,P a→Dr (f a) Q):Dr (Option.bind o f) Q:=by
 obtain ⟨a,h1,h2⟩:=h
 obtain ⟨b,h3,h4⟩:=k a h2
 exact ⟨b,ko h1 h3,h4⟩
theorem Dr.ite {A:Type} {c:Bool} {x y:Option A} {Q:A→Prop} (h1:c=true→Dr x Q) (h2:c=false→Dr y Q):Dr (if c=true then x else y) Q:=by
 cases c
 ·exact h2 rfl
 ·exact h1 rfl
theorem Dr.mono {A:Type} {o:Option A} {P Q:A→Prop} (h:Dr o P) (k:∀ a,P a→Q a):Dr o Q:=by
 obtain ⟨a,h1,h2⟩:=h
 exact ⟨a,h1,k a h2⟩
theorem Dr.get {A:Type} {xs:List A} {i:Int} (h0:0≤i) (h1:i<(xs.length:Int)):Dr (kn xs i) (λx=>x∈xs):=by
 obtain ⟨x,hx,_,hm⟩:=vz h0 h1
 exact ⟨x,hx,hm⟩
theorem Dr.app {A:Type} {xs ys:List A} (h:xs.length+ys.length≤2147483648):Dr (lD xs ys) (λl=>l=xs++ys):=⟨_,nC h,rfl⟩
theorem Dr.forN {S:Type} {body:Int→S→Option (S ⊕ Empty)} {B:Type} {f:S ⊕ Empty→Option B} {Q:B→Prop} (I:Int→S→Prop) {k:Nat} {s:S} (h0:I 0 s)
  (h:∀ j s,0≤j→j<(k:Int)→I j s→Dr (body j s) (λr=>∀ t,r=.inl t→I (j+1) t)) (hf:∀ s,I k s→Dr (f (.inl s)) Q):Dr ((forN body k 0 s).bind f) Q:=by
 rcases al9 (body:=body) (k:=k) (i:=0) (s:=s) I (λ_=>False) h0 (λj s h1 h2 hs=>by
  obtain ⟨r,h3,h4⟩:=h j s h1 (by simpa using h2) hs
  cases r with
  | inl t=>exact .inl ⟨t,h3,h4 t rfl⟩
  | inr e=>exact e.elim) with ⟨t,h3,h4⟩ | ⟨e,_,h4⟩
 ·obtain ⟨b, h5, h6⟩ := hf t (by simpa using h4)
  exact ⟨b,ko h3 h5,h6⟩
 ·exact h4.elim
theorem Dr.loop {S X:Type} {body:S→Option (S ⊕ X)} {Q:X→Prop} (I:S→Prop) (μ:S→Nat):∀ {s:S},I s→(∀ s,I s→Dr (body s) (λr=>(∀ t,r=.inl t→I t∧μ t<μ s)∧∀ x,r=.inr x→Q x))→Dr (lH body s) Q:=by
 intro s hs h
 generalize hn:μ s=n
 induction n using Nat.strongRecOn generalizing s with
 | _ n ih =>
  obtain ⟨r,h1,h2,h3⟩:=h s hs
  cases r with
  | inl t =>
   have h4:=h2 t rfl
   obtain ⟨x,h5,h6⟩:=ih (μ t) (by omega) h4.1 rfl
   exact ⟨x,by rw [mQ h1];exact h5,h6⟩
  | inr x=>exact ⟨x,lJ h1,h3 x rfl⟩
theorem bu4 (a b:Int) (ha:0≤a∧a<1073741824) (hb:0≤b∧b<1073741824):0≤tI IntKind.i64 (· ^^^ ·) a b:=by
 unfold tI
 have h:(BitVec.ofInt 64 a ^^^ BitVec.ofInt 64 b).toNat<2 ^ 30:=by
  rw [BitVec.toNat_xor]
  refine Nat.xor_lt_two_pow ?_ ?_<;>rw [BitVec.toNat_ofInt]<;>omega
 show 0≤IntKind.i64.wrap ((BitVec.ofInt 64 a ^^^ BitVec.ofInt 64 b).toNat:Int)
 rw [IntKind.wrap_i64]
 omega
theorem wB {a n:Int} (ha:0≤a) (hn:0<n):0≤a.tmod n∧a.tmod n<n:=⟨Int.tmod_nonneg _ ha,Int.tmod_lt_of_pos _ hn⟩
theorem af8 (b:List UInt8) (hb:b.length≤2000) (p n:Int) (h0:0≤p) (h1:p≤1000000):∃ v,km ⟨b,p⟩ n=some (v,⟨b,p+1⟩)∧0≤v∧(0<n→v<n):=by
 unfold km
 have e1:w64 (p+1)=p+1:=lV (by omega) (by omega)
 have e2:w64 (p+1 - 1)=p:=by rw [lV (by omega) (by omega)];omega
 simp only [e1,e2]
 by_cases hn:n<1
 ·simp only [hn,decide_true,if_true,obS]
  exact ⟨0,rfl,by omega,by omega⟩
 by_cases hl:b.length=0
 ·simp only [hn,hl,decide_false,Bool.false_eq_true,if_false,obS,Int.natCast_zero,decide_true,if_true]
  exact ⟨0,rfl,by omega,by omega⟩
 have hbl:¬ ((b.length:Int)=0):=by omega
 have hn0:¬ n=0:=by omega
 simp only [hn,hbl,decide_false,Bool.false_eq_true,if_false,obS]
 by_cases hk:p<(b.length:Int)
 ·obtain ⟨x,hx,_⟩:=vz (xs:=b) h0 hk
  simp only [hk,decide_true,if_true,hx,obS,aj1,hn0,if_false]
  have:=wB (a:=((x.toNat:Nat):Int)) (n:=n) (by omega) (by omega)
  exact ⟨_,rfl,this.1,λ_=>this.2⟩
 ·have hpl : (0 : Int) < (b.length : Int) := by omega
  have e3:w64 (w64 (p*7)+3)=p*7+3:=by rw [lV (n:=p*7) (by omega) (by omega),lV (by omega) (by omega)]
  obtain ⟨x,hx,_⟩:=vz (xs:=b) (wB h0 hpl).1 (wB h0 hpl).2
  obtain ⟨y,hy,_⟩:=vz (xs:=b) (wB (a:=p*7+3) (by omega) hpl).1 (wB (a:=p*7+3) (by omega) hpl).2
  have hd:0≤p.tdiv (b.length:Int)∧p.tdiv (b.length:Int)≤p:=⟨Int.tdiv_nonneg h0 (by omega),Int.tdiv_le_self _ h0⟩
  have e4:w64 (p.tdiv (b.length:Int))=p.tdiv (b.length:Int):=lV (by omega) (by omega)
  have hx8:(x.toNat:Int)<256:=by have:=x.toNat_lt;omega
  have hy8:(y.toNat:Int)<256:=by have:=y.toNat_lt;omega
  have hz:∃ z:Int,w64 (w64 (w64 (w64 ((x.toNat:Int)*131)+w64 ((y.toNat:Int)*1117))+w64 (p*29))+w64 (p.tdiv (b.length:Int)*53))=z∧0≤z∧z<1073741824:=by
   refine ⟨_,rfl,?_⟩
   rw [lV (n := (x.toNat : Int) * 131) (by omega) (by omega), lV (n := (y.toNat : Int) * 1117) (by omega) (by omega), lV (n := p * 29) (by omega) (by omega),
    lV (n:=p.tdiv (b.length:Int)*53) (by omega) (by omega),lV (n:=(x.toNat:Int)*131+(y.toNat:Int)*1117) (by omega) (by omega),
    lV (n:=(x.toNat:Int)*131+(y.toNat:Int)*1117+p*29) (by omega) (by omega),lV (by omega) (by omega)]
   omega
  obtain ⟨z,hz,hz0,hz1⟩:=hz
  have hq:0≤z.tdiv 64∧z.tdiv 64≤z:=⟨Int.tdiv_nonneg hz0 (by omega),Int.tdiv_le_self _ hz0⟩
  have e5:w64 (z.tdiv 64)=z.tdiv 64:=lV (by omega) (by omega)
  simp only [hk,decide_false,Bool.false_eq_true,if_false,aj1,bm8,hbl,hn0,obS,e3,hx,hy,e4,hz,e5]
  have:=wB (bu4 z (z.tdiv 64) ⟨hz0,hz1⟩ ⟨hq.1,by omega⟩) (show 0<n by omega)
  exact ⟨_,rfl,this.1,λ_=>this.2⟩
theorem bv4 (b:List UInt8) (hb:b.length≤2000) (p:Int) (l:List Int) (hl:0<l.length) (h0:0≤p) (h1:p≤1000000):∃ v,lF ⟨b,p⟩ l=some (v,⟨b,p+1⟩)∧v∈l:=by
 obtain ⟨v,h2,h3,h4⟩:=af8 b hb p (l.length:Int) h0 h1
 obtain ⟨x,hx,_,hm⟩:=vz (xs:=l) h3 (h4 (by omega))
 exact ⟨x,ko h2 (ko hx rfl),hm⟩
section
variable {b:List UInt8} (hb:b.length≤2000) {p:Int} {B:Type} {Q:B→Prop}
theorem pk {n:Int} {f:Int × kR→Option B} (hb:b.length≤2000) (h0:0≤p) (h1:p≤1000000) (k:∀ v,0≤v→(0<n→v<n)→Dr (f (v,⟨b,p+1⟩)) Q):Dr ((km ⟨b,p⟩ n).bind f) Q:=by
 obtain ⟨v,h2,h3,h4⟩:=af8 b hb p n h0 h1
 obtain ⟨c,h5,h6⟩:=k v h3 h4
 exact ⟨c,ko h2 h5,h6⟩
theorem nm {l:List Int} {f:Int × kR→Option B} (hb:b.length≤2000) (hl:0<l.length) (h0:0≤p) (h1:p≤1000000) (k:∀ v,v∈l→Dr (f (v,⟨b,p+1⟩)) Q):Dr ((lF ⟨b,p⟩ l).bind f) Q:=by
 obtain ⟨v,h2,h3⟩:=bv4 b hb p l hl h0 h1
 obtain ⟨c,h5,h6⟩:=k v h3
 exact ⟨c,ko h2 h5,h6⟩
theorem gtx {A:Type} {xs:List A} {i:Int} {f:A→Option B} (h0:0≤i) (h1:i<(xs.length:Int)) (k:∀ x,x∈xs→Dr (f x) Q):Dr ((kn xs i).bind f) Q:=Dr.bind (Dr.get h0 h1) k
theorem ap {A:Type} {xs ys:List A} {f:List A→Option B} (h:xs.length+ys.length≤2147483648) (k:Dr (f (xs++ys)) Q):Dr ((lD xs ys).bind f) Q:=Dr.bind (Dr.app h) λ_ e=>by subst e;exact k
def DrA {A:Type} (o:Option (A × kR)) (b:List UInt8) (lo hi:Int) (P:A→Prop):Prop:=Dr o (λr=>(r.2.b=b∧lo≤r.2.p∧r.2.p≤hi)∧P r.1)
theorem DrA.bind {A:Type} {o:Option (A × kR)} {lo hi:Int} {P:A→Prop} {f:A × kR→Option B} (h:DrA o b lo hi P) (k:∀ v q,lo≤q→q≤hi→P v→Dr (f (v,⟨b,q⟩)) Q):Dr (Option.bind o f) Q:=by
 obtain ⟨⟨v,⟨b',q⟩⟩,h1,⟨h2,h3,h4⟩,h5⟩:=h
 simp only at h2 h3 h4 h5
 subst h2
 obtain ⟨c,h6,h7⟩:=k v q h3 h4 h5
 exact ⟨c,ko h1 h6,h7⟩
theorem DrA.some {A:Type} {v:A} {q lo hi:Int} {P:A→Prop} (h1:lo≤q) (h2:q≤hi) (h3:P v):DrA (some (v,(⟨b,q⟩:kR))) b lo hi P:=⟨_,rfl,⟨rfl,h1,h2⟩,h3⟩
end
theorem bn6 (code:List UInt8):∃ b,qc code=Option.some ⟨b,0⟩∧b.length≤2000:=by
 unfold qc
 by_cases h:(2000:Int)<(code.length:Int)
 ·simp only [h,decide_true,if_true]
  have:zM code 0 2000=Option.some (code.take 2000):=by
   unfold zM
   rw [if_pos (by omega)]
   simp
  rw [this]
  exact ⟨_,rfl,by rw [List.length_take];omega⟩
 ·simp only [h,decide_false,Bool.false_eq_true,if_false,obS]
  exact ⟨_,rfl,by omega⟩
theorem DrF {A:Type} {b:List UInt8} {lo hi:Int} {P:A→Prop} {r:A × kR} (h1:r.2.b=b) (h2:lo≤r.2.p) (h3:r.2.p≤hi) (h4:P r.1):Dr (some r) (λr=>(r.2.b=b∧lo≤r.2.p∧r.2.p≤hi)∧P r.1):=⟨r,rfl,⟨h1,h2,h3⟩,h4⟩
theorem yC:∀ {d:Nat} {e:kK},lR d e=true→lR (d+1) e=true
 | 0,e,h=>by rw [lR] at h;cases h
 | d+1,e,h=>by
  obtain ⟨h1,h2⟩:=qA h
  rw [lR,Bool.and_eq_true,List.all_eq_true]
  exact ⟨h1,λk hk=>yC (h2 k hk)⟩
theorem af1 {d e2:Nat} {e:kK} (h:d≤e2) (hf:lR d e=true):lR e2 e=true:=by
 obtain ⟨k,rfl⟩:∃ k,e2=d+k:=⟨e2 - d,by omega⟩
 clear h
 induction k with
 | zero=>exact hf
 | succ k ih=>exact yC ih
theorem bg6 {n:Int} (h:0≤n∧n≤255):lR 1 ⟨1,n,mkS [],[]⟩=true∧lz ⟨1,n,mkS [],[]⟩=1:=by
 constructor
 ·rw [lR]
  have:inB n 0 255=true:=oJ.2 h
  simp [rk,qj,oJ,h]
 ·rw [oo];show 1+mL []=1;rw [mz]
theorem ax3 {s:Str} (h:lu s=true):lR 1 ⟨2,0,s,[]⟩=true∧lz ⟨2,0,s,[]⟩=1:=by
 constructor
 ·rw [lR]
  simp [rk,qj,oJ,h]
 ·rw [oo];show 1+mL []=1;rw [mz]
theorem cc6 (b:List UInt8) (hb:b.length≤2000) (p:Int) (l:List Str) (hl:0<l.length) (h0:0≤p) (h1:p≤1000000):∃ v,lP ⟨b,p⟩ l=some (v,⟨b,p+1⟩)∧v∈l:=by
 obtain ⟨v,h2,h3,h4⟩:=af8 b hb p (l.length:Int) h0 h1
 obtain ⟨x,hx,_,hm⟩:=vz (xs:=l) h3 (h4 (by omega))
 exact ⟨x,ko h2 (ko hx rfl),hm⟩
theorem ofx {b:List UInt8} {p:Int} {B:Type} {Q:B→Prop} {l:List Str} {f:Str × kR→Option B} (hb:b.length≤2000) (hl:0<l.length) (h0:0≤p) (h1:p≤1000000) (k:∀ v,v∈l→Dr (f (v,⟨b,p+1⟩)) Q):Dr ((lP ⟨b,p⟩ l).bind f) Q:=by
 obtain ⟨v,h2,h3⟩:=cc6 b hb p l hl h0 h1
 obtain ⟨c,h5,h6⟩:=k v h3
 exact ⟨c,ko h2 h5,h6⟩
theorem af3 {b:List UInt8} (hb:b.length≤2000) {p:Int} (h0:0≤p) (h1:p≤900000) {names:List Str} (hn:∀ s∈names,lu s=true):DrA (rI ⟨b,p⟩ names) b p (p+2) (λe=>lR 1 e=true∧lz e=1):=by
 unfold rI
 have rest:∀ (q:Int) (c:Bool),p≤q→q≤p+1→(c=false→names≠[])→DrA (if c then (lF (⟨b,q⟩:kR) ([0,1,2,3,5,7,15,16,100,255]:List Int)).bind λuA=>some ((⟨1,uA.1,(mkS []),[]⟩:kK),(⟨b,uA.2.p⟩:kR)) else (lP (⟨b,q⟩:kR) names).bind λuB=>some ((⟨2,0,uB.1,[]⟩:kK),(⟨b,uB.2.p⟩:kR))) b p (p+2) (λe=>lR 1 e=true∧lz e=1):=by
  intro q c hq1 hq2 hc
  cases c with
  | true =>
   refine nm hb (by decide) (by omega) (by omega) λv hv=>DrF (lo:=p) (hi:=p+2) (P:=λe=>lR 1 e=true∧lz e=1) rfl (by dsimp only;omega) (by dsimp only;omega) (bg6 (n:=v) ?_)
   simp only [List.mem_cons,List.not_mem_nil,or_false] at hv
   omega
  | false =>
   exact ofx hb (List.length_pos_iff.2 (hc rfl)) (by omega) (by omega) λv hv=>DrF (lo:=p) (hi:=p+2) (P:=λe=>lR 1 e=true∧lz e=1) rfl (by dsimp only;omega) (by dsimp only;omega) (ax3 (hn v hv))
 by_cases hz:names=[]
 ·subst hz
  exact rest p true (by omega) (by omega) (λh=>by cases h)
 ·have e0 : decide ((names.length : Int) = 0) = false := by have := List.length_pos_iff.2 hz; simp; omega
  rw [e0]
  refine Dr.bind (P:=λs=>p≤s.1∧s.1≤p+1) ?_ λs hs=>rest s.1 s.2 hs.1 hs.2 λ_=>hz
  exact pk hb (by omega) (by omega) λv g1 g2=>Dr.some ⟨by dsimp only;omega,by dsimp only;omega⟩
theorem be5 {op:Int} {d:Nat} {a:kK} (h:op=11∨op=12) (ha:lR d a=true):lR (d+1) ⟨op,0,mkS [],[a]⟩=true:=by
 rw [lR]
 rcases h with rfl | rfl<;>simp [rk,qj,oJ,ha]
theorem ai4 {op:Int} {d:Nat} {a c:kK} (h:3≤op∧op≤10) (ha:lR d a=true) (hc:lR d c=true):lR (d+1) ⟨op,0,mkS [],[a,c]⟩=true:=by
 have:op=3∨op=4∨op=5∨op=6∨op=7∨op=8∨op=9∨op=10:=by omega
 rw [lR]
 rcases this with rfl | rfl | rfl | rfl | rfl | rfl | rfl | rfl<;>simp [rk,qj,oJ,ha,hc]
theorem bo5 (op n:Int) (s:Str) (a:kK):lz ⟨op,n,s,[a]⟩=1+lz a:=by rw [oo];show 1+mL [a]=_;rw [mI,mz];omega
theorem au8 (op n:Int) (s:Str) (a c:kK):lz ⟨op,n,s,[a,c]⟩=1+lz a+lz c:=by rw [oo];show 1+mL [a,c]=_;rw [mI,mI,mz];omega
theorem wA {b:List UInt8} (hb:b.length≤2000) {names:List Str} (hn:∀ s∈names,lu s=true):∀ (d:Nat) (p:Int),d≤7→0≤p→p+4 ^ (d+1)≤900000→DrA (mi ⟨b,p⟩ names ((d+1:Nat):Int)) b p (p+4 ^ (d+1)) (λe=>lR (d+1) e=true∧lz e+1≤2 ^ (d+1)):=by
 intro d
 induction d with
 | zero =>
  intro p hd h0 h1
  rw [mi]
  have e1:decide (((0+1:Nat):Int)<2)=true:=rfl
  rw [e1]
  simp only [if_true,obS]
  exact DrA.bind (af3 hb h0 (by simp at h1;omega) hn) λv q g1 g2 g3=>DrF (lo:=p) (hi:=p+4 ^ (0+1)) (P:=λe=>lR (0+1) e=true∧lz e+1≤2 ^ (0+1)) rfl (by dsimp only;omega) (by dsimp only;simp;omega) ⟨g3.1,by rw [g3.2];decide⟩
 | succ d ih =>
  intro p hd h0 h1
  have hpow:(4:Int) ^ (d+1+1)=4*4 ^ (d+1):=by rw [Int.pow_succ];omega
  have hpow2:(2:Nat) ^ (d+1+1)=2*2 ^ (d+1):=by rw [Nat.pow_succ];omega
  have hp1:(4:Int)≤4 ^ (d+1):=by
   have:(4:Int) ^ (d+1)=((4 ^ (d+1):Nat):Int):=by push_cast;rfl
   rw [this]
   have:4 ^ 1≤4 ^ (d+1):=Nat.pow_le_pow_right (by decide) (by omega)
   omega
  have hp2:2≤2 ^ (d+1):=by
   have:2 ^ 1≤2 ^ (d+1):=Nat.pow_le_pow_right (by decide) (by omega)
   omega
  rw [hpow] at h1 ⊢
  rw [hpow2]
  generalize hP:(4:Int) ^ (d+1)=P at *
  rw [mi]
  have e1:decide (((d+1+1:Nat):Int)<2)=false:=by simp;omega
  have ew:w64 (((d+1+1:Nat):Int) - 1)=((d+1:Nat):Int):=by rw [lV (by omega) (by omega)];omega
  rw [e1]
  simp only [Bool.false_eq_true,if_false,ew]
  refine Dr.bind (P:=λs=>s.1=p+1) (pk hb h0 (by omega) λv _ _=>Dr.some rfl) λs hs=>?_
  refine Dr.ite (λ_=>?_) (λ_=>?_)
  ·rw [hs]
   exact DrA.bind (af3 hb (by omega) (by omega) hn) λv q g1 g2 g3=>DrF (lo:=p) (hi:=p+4*P) (P:=λe=>lR (d+1+1) e=true∧lz e+1≤2*2 ^ (d+1)) rfl (by dsimp only;omega) (by dsimp only;omega) ⟨af1 (by omega) g3.1,by rw [g3.2];omega⟩
  rw [hs]
  refine pk hb (by omega) (by omega) λv _ _=>?_
  dsimp only
  refine Dr.ite (λ_=>?_) (λ_=>?_)
  ·refine nm hb (by decide) (by omega) (by omega) fun op hop => ?_
   dsimp only
   have hop2:op=11∨op=12:=by
    simp only [List.mem_cons,List.not_mem_nil,or_false] at hop
    omega
   refine DrA.bind (ih (p+1+1+1) (by omega) (by omega) (by omega)) λe q g1 g2 g3=>DrF (lo:=p) (hi:=p+4*P) (P:=λe=>lR (d+1+1) e=true∧lz e+1≤2*2 ^ (d+1)) rfl (by dsimp only;omega) (by dsimp only;omega) ⟨be5 hop2 g3.1,by rw [bo5];dsimp only;omega⟩
  ·refine nm hb (by decide) (by omega) (by omega) fun op hop => ?_
   dsimp only
   have hop2:3≤op∧op≤10:=by
    simp only [List.mem_cons,List.not_mem_nil,or_false] at hop
    omega
   refine DrA.bind (ih (p+1+1+1) (by omega) (by omega) (by omega)) λe q g1 g2 g3=>?_
   dsimp only
   refine DrA.bind (ih q (by omega) (by omega) (by omega)) λe2 q2 k1 k2 k3=>DrF (lo:=p) (hi:=p+4*P) (P:=λe=>lR (d+1+1) e=true∧lz e+1≤2*2 ^ (d+1)) rfl (by dsimp only;omega) (by dsimp only;omega) ⟨ai4 hop2 g3.1 k3.1,by rw [au8];dsimp only;omega⟩
end Prg
end Go.Wk
namespace Go.Wk
open Go
namespace Prg
set_option maxRecDepth 10000
theorem bj4:∀ s∈([(mkS [97]),(mkS [98]),(mkS [120]),(mkS [103,111])]:List Str),lu s=true:=by
 intro s hs
 simp only [List.mem_cons,List.not_mem_nil,or_false] at hs
 rcases hs with rfl | rfl | rfl | rfl<;>rfl
theorem bc0:∀ s∈([(mkS [97]),(mkS [98])]:List Str),lu s=true:=by
 intro s hs
 simp only [List.mem_cons,List.not_mem_nil,or_false] at hs
 rcases hs with rfl | rfl<;>rfl
theorem bw1:∀ s∈([(mkS [102]),(mkS [103]),(mkS [97])]:List Str),lu s=true:=by
 intro s hs
 simp only [List.mem_cons,List.not_mem_nil,or_false] at hs
 rcases hs with rfl | rfl | rfl<;>rfl
theorem ay1 {s:Str} (hs:lu s=true) {d:Nat} {ks:List kK} (hl:ks.length≤3) (h:∀ k∈ks,lR d k=true):lR (d+1) ⟨13,0,s,ks⟩=true:=by
 rw [lR,Bool.and_eq_true,List.all_eq_true]
 refine ⟨?_,h⟩
 have:(ks.length:Int)≤3:=by omega
 simp [rk,qj,oJ,hs,this]
theorem bb6 {b:List UInt8} (hb:b.length≤2000) {p:Int} (h0:0≤p) (h1:p≤800000) {d:Nat} (hd:2≤d) (hd7:d≤6):DrA (pj ⟨b,p⟩ ((d+1:Nat):Int)) b p (p+20000) (λe=>lR (d+2) e=true∧lz e≤2 ^ (d+1)+10∧e.kids.length≤3):=by
 have hk3:∀ {e:kK} {n:Nat},lR n e=true→e.kids.length≤3:=by
  intro e n h
  cases n with
  | zero=>rw [lR] at h;cases h
  | succ n=>exact vw (qA h).1
 have hpow:(4:Int) ^ (d+1)≤16384:=by
  have h1:(4:Int) ^ (d+1)=((4 ^ (d+1):Nat):Int):=by push_cast;rfl
  rw [h1]
  have:4 ^ (d+1)≤4 ^ 7:=Nat.pow_le_pow_right (by decide) (by omega)
  have e7:(4:Nat) ^ 7=16384:=by decide
  omega
 unfold pj
 refine DrA.bind (wA hb bj4 d p (by omega) h0 (by omega)) λe q g1 g2 g3=>?_
 dsimp only
 refine pk hb (by omega) (by omega) λv _ _=>?_
 dsimp only
 refine Dr.ite (λ_=>DrF (lo:=p) (hi:=p+20000) (P:=λe=>lR (d+2) e=true∧lz e≤2 ^ (d+1)+10∧e.kids.length≤3) rfl (by dsimp only;omega) (by dsimp only;omega) ⟨yC g3.1,by dsimp only;omega,hk3 g3.1⟩) λ_=>?_
 refine ofx hb (by decide) (by omega) (by omega) λnmv hnm=>?_
 dsimp only
 have hnv:=bw1 nmv hnm
 refine pk hb (by omega) (by omega) λm hm0 hm1=>?_
 dsimp only
 have hm4:=hm1 (by decide)
 refine Dr.bind (P:=λs:Int × List kK=>q≤s.1∧s.1≤q+3+48∧s.2.length≤3∧(∀ k∈s.2,lR 2 k=true)∧mL s.2≤9) ?_ λs hs=>?_
 ·refine Dr.bind (P:=λs:Int × List kK=>q≤s.1∧s.1≤q+3+48∧s.2.length≤3∧(∀ k∈s.2,lR 2 k=true)∧mL s.2≤9) ?_ λs hs=>Dr.some hs
  refine Dr.loop (I:=λs:Int × List kK × Int=>q≤s.1∧s.1+16*s.2.2≤q+3+48∧0≤s.2.2∧(s.2.1.length:Int)+s.2.2≤3∧(∀ k∈s.2.1,lR 2 k=true)∧mL s.2.1≤3*s.2.1.length) (λs=>s.2.2.toNat) ⟨by dsimp only;omega,by dsimp only;omega,hm0,by simp;omega,λk hk=>by simp at hk,by rw [mz];simp⟩ ?_
  rintro ⟨p1,ks,n⟩ ⟨i1,i2,i3,i4,i5,i6⟩
  dsimp only at i1 i2 i3 i4 i5 i6 ⊢
  by_cases hn:0<n
  ·rw [if_pos (by simpa using hn)]
   have hx:=wA hb bc0 1 p1 (by omega) (by omega) (by simp;omega)
   refine DrA.bind hx λx q2 k1 k2 k3=>?_
   refine ap (by simp;omega) ?_
   have hw:w64 (n - 1)=n - 1:=lV (by omega) (by omega)
   rw [hw]
   refine Dr.some (And.intro (λt ht=>?_) λt ht=>by cases ht)
   simp only [Sum.inl.injEq] at ht
   subst ht
   have h16:(4:Int) ^ (1+1)=16:=by decide
   have h4:2 ^ (1+1)=4:=by decide
   rw [h16] at k2
   rw [h4] at k3
   dsimp only
   refine ⟨⟨by omega,by omega,by omega,by simp;omega,λk hk=>?_,?_⟩,by omega⟩
   ·rcases List.mem_append.1 hk with h | h
    ·exact i5 k h
    ·simp at h;subst h;exact k3.1
   ·rw [pg,mI,mz];simp;omega
  ·rw [if_neg (by simpa using hn)]
   refine Dr.some (And.intro (λt ht=>by cases ht) λt ht=>?_)
   simp only [Sum.inr.injEq] at ht
   subst ht
   exact ⟨i1,by dsimp only;omega,by dsimp only;omega,i5,by dsimp only;omega⟩
 obtain ⟨j1,j2,j3,j4,j5⟩:=hs
 refine pk hb (by omega) (by omega) λv2 _ _=>?_
 dsimp only
 have hcf:=ay1 hnv j3 j4
 have hcp:lz ⟨13,0,nmv,s.2⟩≤10:=by rw [oo];show 1+mL s.2≤10;omega
 have h2d:8≤2 ^ (d+1):=by
  have:2 ^ 3≤2 ^ (d+1):=Nat.pow_le_pow_right (by decide) (by omega)
  omega
 refine Dr.ite (λ_=>DrF (lo:=p) (hi:=p+20000) (P:=λe=>lR (d+2) e=true∧lz e≤2 ^ (d+1)+10∧e.kids.length≤3) rfl (by dsimp only;omega) (by dsimp only;omega) ⟨af1 (by omega) hcf,by dsimp only;omega,j3⟩) λ_=>DrF (lo:=p) (hi:=p+20000) (P:=λe=>lR (d+2) e=true∧lz e≤2 ^ (d+1)+10∧e.kids.length≤3) rfl (by dsimp only;omega) (by dsimp only;omega) ⟨ai4 (by omega) g3.1 (af1 (by omega) hcf),by rw [au8];omega,by simp⟩
end Prg
end Go.Wk
namespace Go.Wk
open Go
namespace Prg
set_option maxRecDepth 10000
theorem bm4 {b:List UInt8} (hb:b.length≤2000) {p:Int} (h0:0≤p) (h1:p≤500000):Dr (rj ⟨b,p⟩) (λ_=>True):=by
 unfold rj
 have ha:=bb6 hb h0 (by omega) (d:=3) (by omega) (by omega)
 refine DrA.bind (f:=λuA=>_) ha λe q g1 g2 g3=>?_
 dsimp only
 refine pk hb (by omega) (by omega) λv _ _=>?_
 dsimp only
 refine Dr.bind (P:=λ_=>True) ?_ λs _=>Dr.some trivial
 refine Dr.bind (P:=λ_=>True) ?_ λs _=>Dr.some trivial
 refine Dr.ite (λ_=>nm hb (by decide) (by omega) (by omega) λn _=>Dr.some trivial) λ_=>?_
 refine Dr.bind (P:=λ_=>True) ?_ λs _=>Dr.some trivial
 refine Dr.ite (λ_=>ofx hb (by decide) (by omega) (by omega) λn _=>Dr.some trivial) λ_=>?_
 refine Dr.bind (P:=λ_=>True) ?_ λs _=>Dr.some trivial
 refine Dr.ite (λ_=>nm hb (by decide) (by omega) (by omega) λn _=>Dr.some trivial) λ_=>?_
 refine Dr.bind (P:=λ_=>True) ?_ λs _=>Dr.some trivial
 refine Dr.ite (λ_=>?_) λ_=>?_
 ·refine DrA.bind (af3 hb (by omega) (by omega) (names := []) (fun s hs => by cases hs)) fun x q2 k1 k2 k3 => ?_
  exact ap (by have:=g3.2.2;simp;omega) (Dr.some trivial)
 refine Dr.bind (P:=λ_=>True) ?_ λs _=>Dr.some trivial
 refine Dr.ite (λ_=>?_) λ_=>Dr.some trivial
 exact DrA.bind (bb6 hb (p:=q+1) (by omega) (by omega) (d:=6) (by omega) (by omega)) λx q2 k1 k2 k3=>Dr.some trivial
end Prg
end Go.Wk
namespace Go.Wk
open Go
namespace Prg
set_option maxRecDepth 10000
end Prg
end Go.Wk
namespace Go.Wk
open Go
namespace Prg
set_option maxRecDepth 10000
def nW (d:Nat) (e:kK) (need:Int):Nat:=(brW (decide (lvI e.op<need)) (wE d e)).length
def cf9:Job→Prop
 | .E lv ws e r=>∀ d,lR d e=true→nW d e lv+r.length≤ws.length
 | .L lv x ws e r=>(lv=1∨lv=2∨lv=3∨lv=4)→∀ d,lR d e=true→(∃ d',lR d' x=true∧∀ k:Nat,nW d' x lv≤k→nW d e lv+r.length≤ws.length+k)
 | .A ws ks r=>∀ d,(∀ k∈ks,lR d k=true)→(aW (ks.map (wE d))).length+1+r.length≤ws.length
 | .M acc ws ks r=>∀ d,(∀ k∈ks,lR d k=true)→(∀ k∈acc,lR d k=true)∧(aW (ks.map (wE d))).length+1+r.length≤(aW (acc.map (wE d))).length+ws.length
end Prg
end Go.Wk
namespace Go.Wk
open Go
namespace Prg
set_option maxRecDepth 10000
end Prg
end Go.Wk
namespace Go.Wk
open Go
namespace Prg
set_option maxRecDepth 10000
def cf2 (s:Str):Prop:=s.b.length≤590∨∃ l,s.b=59::l
end Prg
end Go.Wk
