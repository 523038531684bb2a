/- A part of the proof of FnTwoProgramsCardSaid. -/
import Derived.Test.YtdmoolhjchoifaaGreatDoorTpModels
import Derived.Test.YtdmoolhjchoifaaGreatDoorWkN
import Derived.Test.YtdmoolhjchoifaaGreatDoorWkY
import Derived.Laws.RangeString
import Derived.Laws.RangeAny
import Derived.Test.YtdmoolhjchoifaaGreatDoorWkAd
namespace Go.Wk
open Go
namespace Prg
set_option maxRecDepth 10000
def kH (b:UInt8):Bool:=decide ((97:UInt8)≤b)&&decide (b≤(122:UInt8))
def jn (b:UInt8):Bool:=decide ((48:UInt8)≤b)&&decide (b≤(57:UInt8))
def nP:List UInt8:=[40,41,123,125,59,44,43,45,42,47,37,60,61,38,33,64]
def k8 (b:UInt8):Int:=if kH b then 1 else if jn b then 2 else if b∈nP then 3 else if b=32∨b=10 then 4 else 0
theorem tH (b:UInt8):ja b=some (kH b):=by
 unfold ja kH
 by_cases h:(97:UInt8)≤b<;>simp [h]
theorem sB (b:UInt8):jU b=some (jn b):=by
 unfold jU jn
 by_cases h:(48:UInt8)≤b<;>simp [h]
theorem av0 (s:Str) (c:UInt8):∃ n:Int,nM s c=some n∧(0≤n↔c∈s.b):=by
 unfold nM
 rcases xR (xs:=s.b) (body:=(λ(uA:Int) (uC:Unit)=>((fW (s).b uA).bind λuB=>if decide (uB=c) then some (.inr uA) else some (.inl ()):Option ((Unit) ⊕ (Int))))) (λx=>decide (x=c)) (λi=>i) (λl x r he=>by
  rw [he,iO,obS]) with ⟨h1,h2⟩ | ⟨l,x,r,h1,h2,h3,h4⟩
 ·refine ⟨-1, fT h2 rfl, ⟨fun h => by omega, fun h => ?_⟩⟩
  have:=List.any_eq_false.1 h1 c h
  simp at this
 ·refine ⟨_, fT h4 rfl, ⟨fun _ => ?_, fun _ => by omega⟩⟩
  simp at h3;subst h3
  rw [h1];simp
theorem oA (b:UInt8):ir b=some (k8 b):=by
 obtain ⟨n,h1,h2⟩:=av0 (mkS [40,41,123,125,59,44,43,45,42,47,37,60,61,38,33,64]) b
 have e1:(if decide ((97:UInt8)≤b) then some (decide (b≤(122:UInt8))) else some false:Option Bool)=some (kH b):=by unfold kH;by_cases h:(97:UInt8)≤b<;>simp [h]
 have e2:(if decide ((48:UInt8)≤b) then some (decide (b≤(57:UInt8))) else some false:Option Bool)=some (jn b):=by unfold jn;by_cases h:(48:UInt8)≤b<;>simp [h]
 have e3:(if decide (b=(32:UInt8)) then some true else some (decide (b=(10:UInt8))):Option Bool)=some (decide (b=32∨b=10)):=by by_cases h:b=32<;>simp [h]
 have h3:(0≤n)↔b∈nP:=h2
 unfold ir k8
 rw [e1,e2,e3,h1]
 simp only [obS]
 cases kH b with
 | true=>rfl
 | false =>
  cases jn b with
  | true=>rfl
  | false =>
   by_cases h:b∈nP
   ·simp [h,h3.2 h]
   ·have:¬ 0≤n:=λh'=>h (h3.1 h')
    simp only [Bool.false_eq_true,if_false,h,this,decide_false]
    by_cases h5:b=32∨b=10<;>simp [h5]
def ov (s:Str):Bool:=decide (s∈fP)
theorem zk (xs:List Str) (v:Str):hY xs v=some (decide (v∈xs)):=by
 unfold hY jc
 rcases xR (xs:=xs) (body:=(λ(uA:Int) (uC:Unit)=>((fW xs uA).bind λuB=>if decide (v=uB) then some (.inr uA) else some (.inl ()):Option ((Unit) ⊕ (Int))))) (λx=>decide (v=x)) (λi=>i) (λl x r he=>by
  rw [he,iO,obS]) with ⟨h1,h2⟩ | ⟨l,x,r,h1,h2,h3,h4⟩
 ·rw [fT (b:=some (-1)) h2 rfl,obS]
  have:v ∉ xs:=λh=>by have:=List.any_eq_false.1 h1 v h;simp at this
  simp [this]
 ·rw [fT (b:=some (l.length:Int)) h4 rfl,obS]
  simp at h3;subst h3
  have:v∈xs:=by rw [h1];simp
  simp [this]
theorem zV (s:Str):nA s=some (ov s):=by
 unfold nA lu ov
 rw [obS]
 show (forN (λ(uA:Int) (uC:Unit)=>((fW fP uA).bind λuB=>if decide (uB=s) then some (.inr true) else some (.inl ()):Option ((Unit) ⊕ (Bool)))) (((fP.length:Int):Int) - 0).toNat 0 ()).bind _=_
 rw [qi (la (xs:=fP) (body:=(λ(uA:Int) (uC:Unit)=>((fW fP uA).bind λuB=>if decide (uB=s) then some (.inr true) else some (.inl ()):Option ((Unit) ⊕ (Bool))))) (λx=>decide (x=s)) true (λl x r he=>by rw [he,iO,obS]))]
 cases h:fP.any (λx=>decide (x=s)) with
 | true =>
  obtain ⟨x,h1,h2⟩:=List.any_eq_true.1 h
  simp at h2;subst h2
  simp [h1]
 | false =>
  have:s ∉ fP:=λh'=>by have:=List.any_eq_false.1 h s h';simp at this
  simp [this]
def ic (s:Str):Bool:=decide (s.b≠[])&&s.b.all kH&&decide (s.b.length≤4)&&!ov s
theorem bg3 (s:Str) (c:Int):o8 s c=some (s.b.all (λb=>decide (k8 b=c))&&decide (s.b≠[])):=by
 unfold o8
 rw [qi (la (xs:=s.b) (body:=(λ(uA:Int) (uD:Unit)=>((fW (s).b uA).bind λuB=>(ir uB).bind λuC=>if decide (uC≠c) then some (.inr false) else some (.inl ()):Option ((Unit) ⊕ (Bool))))) (λb=>decide (k8 b≠c)) false (λl x r he=>by
  rw [he,iO,obS,oA,obS]))]
 have e:s.b.any (λb=>decide (k8 b≠c))=!s.b.all (λb=>decide (k8 b=c)):=by
  rw [List.not_all_eq_any_not];congr 1;funext b;simp
 rw [e]
 have h0:decide (0<(s.b.length:Int))=decide (s.b≠[]):=by
  cases s.b<;>simp
 cases s.b.all (λb=>decide (k8 b=c)) with
 | true =>
  show some (decide (0<(s.b.length:Int)))=_
  rw [h0,Bool.true_and]
 | false=>rfl
theorem bj9 (b:UInt8):decide (k8 b=1)=kH b:=by
 cases h1:kH b<;>cases h2:jn b<;>by_cases h3:b∈nP<;>by_cases h4:b=32∨b=10<;>simp [k8,h1,h2,h3,h4]
theorem qo (s:Str):kb s=some (ic s):=by
 unfold kb
 rw [bg3,zV]
 have e:s.b.all (λb=>decide (k8 b=1))=s.b.all kH:=by congr 1;funext b;exact bj9 b
 have e2:decide ((s.b.length:Int)≤4)=decide (s.b.length≤4):=by rw [decide_eq_decide];omega
 rw [e,e2]
 unfold ic
 cases s.b.all kH<;>cases decide (s.b≠[])<;>cases decide (s.b.length≤4)<;>rfl
theorem vZ {b:UInt8}:kH b=true↔97≤b.toNat∧b.toNat≤122:=by
 unfold kH
 rw [Bool.and_eq_true,decide_eq_true_iff,decide_eq_true_iff,UInt8.le_iff_toNat_le,UInt8.le_iff_toNat_le]
 rfl
theorem ac4 (x:Int):ju x=some (decide (x<97∨122<x)):=by
 unfold ju
 by_cases h:x<97<;>simp [h]
theorem af8 (s:ByteArray) (p:Nat→Bool) (hp:∀ x:Nat,p x=decide (x<97∨122<x)):∀ (f pos:Nat),s.size - pos≤f→pos≤s.size→(Lib.idxFuncFrom p true s f pos<0↔(s.data.toList.drop pos).all kH=true):=by
 have hsz:s.data.toList.length=s.size:=by rw [Array.length_toList];rfl
 intro f
 induction f with
 | zero =>
  intro pos h h2
  have:pos=s.size:=by omega
  subst this
  have:s.data.toList.drop s.size=[]:=List.drop_eq_nil_of_le (by omega)
  rw [this]
  simp [Lib.idxFuncFrom]
 | succ f ih =>
  intro pos h h2
  unfold Lib.idxFuncFrom
  by_cases hlt:pos<s.size
  ·rw [if_pos hlt]
   have hl:pos<s.data.toList.length:=by omega
   have hd:s.data.toList.drop pos=s[pos]'hlt::s.data.toList.drop (pos+1):=by
    rw [List.drop_eq_getElem_cons hl];rfl
   rw [hd,List.all_cons]
   by_cases ha:(s[pos]'hlt).toNat<128
   ·rw [decode_ascii s pos hlt ha,hp]
    cases hb:kH (s[pos]'hlt) with
    | true =>
     have:=vZ.1 hb
     rw [if_neg (by simp;omega),ih (pos+1) (by omega) (by omega)]
     simp
    | false =>
     have:¬ (97≤(s[pos]'hlt).toNat∧(s[pos]'hlt).toNat≤122):=λh=>by rw [vZ.2 h] at hb;cases hb
     rw [if_pos (by simp;omega)]
     simp
   ·obtain ⟨h3, _⟩ := decode_high s pos hlt (by omega)
    rw [hp,if_pos (by simp;omega)]
    have:kH (s[pos]'hlt)=false:=by
     cases hb:kH (s[pos]'hlt) with
     | true=>have:=vZ.1 hb;omega
     | false=>rfl
    rw [this]
    simp
  ·have : pos = s.size := by omega
   subst this
   have:s.data.toList.drop s.size=[]:=List.drop_eq_nil_of_le (by omega)
   rw [this,if_neg hlt]
   simp
theorem rF (n lo hi:Int):lI n lo hi=some (inB n lo hi):=by
 unfold lI inB
 by_cases h:lo≤n<;>simp [h]
theorem vc (n lo hi:Int):kx n lo hi=some (inB n lo hi):=by
 unfold kx inB
 by_cases h:lo≤n<;>simp [h]
theorem sT (s:Str):kA s=some (ic s):=by
 have hi:∃ n:Int,mD s (λy0=>ju y0)=some n∧(n<0↔s.b.all kH=true):=by
  unfold mD sK
  rw [if_pos λx _=>by show (ju (x:Int)).isSome=true;rw [ac4];rfl]
  refine ⟨_,rfl,?_⟩
  have:=af8 ⟨s.b.toArray⟩ (λx=>(ju (x:Int)).getD false) (λx=>by show (ju (x:Int)).getD false=_;rw [ac4];show decide _=decide _;rw [decide_eq_decide];omega) (⟨s.b.toArray⟩:ByteArray).size 0 (by omega) (by omega)
  simpa [Lib.idxFunc] using this
 obtain ⟨n,h1,h2⟩:=hi
 unfold kA
 rw [rF,h1,zk,obS]
 simp only [obS]
 have h3:inB (s.b.length:Int) 1 4=(decide (s.b≠[])&&decide (s.b.length≤4)):=by
  have e1:decide ((1:Int)≤(s.b.length:Int))=decide (s.b≠[]):=by
   rw [decide_eq_decide]
   constructor
   ·intro h h';rw [h'] at h;simp at h
   ·intro h
    have:=List.length_pos_iff.2 h
    omega
  have e2:decide ((s.b.length:Int)≤4)=decide (s.b.length≤4):=by rw [decide_eq_decide];omega
  show (decide ((1:Int)≤(s.b.length:Int))&&decide ((s.b.length:Int)≤4))=_
  rw [e1,e2]
 have h4:decide (n<0)=s.b.all kH:=by
  cases hb:s.b.all kH with
  | true=>simp [h2.2 hb]
  | false =>
   have:¬ n<0:=λh=>by rw [h2.1 h] at hb;cases hb
   simp [this]
 rw [h3,h4]
 unfold ic ov
 cases s.b.all kH<;>cases decide (s.b≠[])<;>cases decide (s.b.length≤4)<;>rfl
end Prg
end Go.Wk
namespace Go.Wk
open Go
namespace Prg
set_option maxRecDepth 10000
def vD (acc:Nat) (l:List UInt8):Nat:=l.foldl (λn c=>n*10+(c.toNat - 48)) acc
theorem np {b:UInt8}:jn b=true↔48≤b.toNat∧b.toNat≤57:=by
 unfold jn
 rw [Bool.and_eq_true,decide_eq_true_iff,decide_eq_true_iff,UInt8.le_iff_toNat_le,UInt8.le_iff_toNat_le]
 rfl
theorem ak0:∀ (l:List UInt8) (acc:Nat),acc*10 ^ l.length≤vD acc l
 | [],acc=>by simp [vD]
 | c::l,acc=>by
  have h:=ak0 l (acc*10+(c.toNat - 48))
  have e:vD acc (c::l)=vD (acc*10+(c.toNat - 48)) l:=rfl
  rw [e]
  refine Nat.le_trans ?_ h
  rw [List.length_cons,Nat.pow_succ,show acc*(10 ^ l.length*10)=(acc*10)*10 ^ l.length by rw [Nat.mul_comm (10 ^ l.length),Nat.mul_assoc]]
  exact Nat.mul_le_mul_right _ (Nat.le_add_right _ _)
theorem ao1:∀ (l:List UInt8) (acc:Nat),l.all jn=true→vD acc l<(acc+1)*10 ^ l.length
 | [],acc,_=>by simp [vD]
 | c::l,acc,h=>by
  rw [List.all_cons,Bool.and_eq_true,np] at h
  have h1:=ao1 l (acc*10+(c.toNat - 48)) h.2
  have e:vD acc (c::l)=vD (acc*10+(c.toNat - 48)) l:=rfl
  rw [e]
  refine Nat.lt_of_lt_of_le h1 ?_
  rw [List.length_cons,Nat.pow_succ,show (acc+1)*(10 ^ l.length*10)=((acc+1)*10)*10 ^ l.length by rw [Nat.mul_comm (10 ^ l.length),Nat.mul_assoc]]
  exact Nat.mul_le_mul_right _ (by omega)
theorem af2 (acc:Nat) (l:List UInt8) (c:UInt8):vD acc (l++[c])=vD acc l*10+(c.toNat - 48):=by simp [vD]
theorem wG:∀ (l:List UInt8) (acc:Nat),l.all jn=true→Lib.decFrom acc l=some (vD acc l)
 | [],_,_=>rfl
 | c::l,acc,h=>by
  rw [List.all_cons,Bool.and_eq_true,np] at h
  have hd:Lib.digitVal c=some (c.toNat - 48):=by unfold Lib.digitVal;rw [if_pos h.1]
  show (match Lib.digitVal c with | some d=>Lib.decFrom (acc*10+d) l | none=>none)=_
  rw [hd]
  exact wG l _ h.2
theorem zJ {s:Str} (h0:s.b≠[]) (hl:s.b.length≤18) (h:s.b.all jn=true):strconv_Atoi s=some (((vD 0 s.b:Nat):Int),()):=by
 unfold strconv_Atoi ad7
 rw [if_pos hl]
 obtain ⟨c,l,hc⟩:∃ c l,s.b=c::l:=by cases hs:s.b with | nil=>exact absurd hs h0 | cons c l=>exact ⟨c,l,rfl⟩
 have hd:Lib.decNat s.b=some (vD 0 s.b):=by
  unfold Lib.decNat
  rw [if_neg (by rw [hc];simp),wG s.b 0 h]
 rw [hc] at hd h ⊢
 rw [List.all_cons,Bool.and_eq_true,np] at h
 have e1:(c == 45)=false:=by
  rw [beq_eq_false_iff_ne];rintro rfl;have:=h.1;simp at this
 have e2:(c == 43)=false:=by
  rw [beq_eq_false_iff_ne];rintro rfl;have:=h.1;simp at this
 show Option.map (λn=>(n,())) (if (c == 45)=true then (Lib.decNat l).map (λ(m:Nat)=>-(m:Int)) else if (c == 43)=true then (Lib.decNat l).map (λ(m:Nat)=>(m:Int)) else (Lib.decNat (c::l)).map (λ(m:Nat)=>(m:Int)))=_
 rw [e1,e2,hd]
 rfl
def qT (l:List UInt8):Bool:=decide (1<l.length)&&decide (l[0]?=some 48)
def mR (s:Str):Int:=if s.b≠[]∧s.b.all jn=true∧qT s.b=false∧vD 0 s.b≤255 then (vD 0 s.b:Nat) else -1
theorem w6 {l:List UInt8} (hz:qT l=false) (hd:l.all jn=true) (hl:4≤l.length):255<vD 0 l:=by
 cases l with
 | nil=>simp at hl
 | cons c l =>
  rw [List.all_cons,Bool.and_eq_true,np] at hd
  have h1:c≠48:=by
   rintro rfl
   unfold qT at hz
   simp at hz
   simp at hl
   rw [hz] at hl
   simp at hl
  have h2:c.toNat≠48:=λe=>h1 (UInt8.toNat_inj.1 e)
  have h3:=ak0 l (c.toNat - 48)
  have e:vD 0 (c::l)=vD (c.toNat - 48) l:=by show vD (0*10+(c.toNat - 48)) l=_;rw [Nat.zero_mul,Nat.zero_add]
  rw [e]
  simp at hl
  have h4:10 ^ 3≤10 ^ l.length:=Nat.pow_le_pow_right (by decide) hl
  have h5:1*10 ^ l.length≤(c.toNat - 48)*10 ^ l.length:=Nat.mul_le_mul_right _ (by omega)
  omega
theorem wI (s:Str):mV s 255=some (mR s):=by
 unfold mV
 by_cases h0:s.b=[]
 ·have:s=mkS []:=Str.ext' h0
  subst this
  simp [mR,mkS]
 have h0':s≠mkS []:=λe=>h0 (by rw [e];rfl)
 obtain ⟨c,l,hc⟩:∃ c l,s.b=c::l:=by cases hs:s.b with | nil=>exact absurd hs h0 | cons c l=>exact ⟨c,l,rfl⟩
 have hg:fW s.b 0=some c:=by rw [hc];rfl
 have hz:(if decide (1<(s.b.length:Int)) then (fW s.b 0).bind λuA=>some (decide (uA=(48:UInt8))) else some false:Option Bool)=some (qT s.b):=by
  unfold qT
  rw [hg,obS]
  have:decide (s.b[0]?=some 48)=decide (c=48):=by rw [hc];simp
  rw [this]
  have e:decide (1<(s.b.length:Int))=decide (1<s.b.length):=by rw [decide_eq_decide];omega
  rw [e]
  cases decide (1<s.b.length)<;>rfl
 rw [hz]
 simp only [h0',decide_false,Bool.false_eq_true,if_false]
 by_cases h5:5<(s.b.length:Int)
 ·simp only [h5,decide_true,if_true,obS]
  unfold mR
  rw [if_neg]
  rintro ⟨_,h2,h3,h4⟩
  have:=w6 h3 h2 (by omega)
  omega
 ·simp only [h5,decide_false,Bool.false_eq_true,if_false,obS]
  cases hzb:qT s.b with
  | true =>
   simp only [if_true]
   unfold mR
   rw [if_neg]
   rintro ⟨_,_,h3,_⟩
   rw [hzb] at h3;cases h3
  | false =>
   simp only [Bool.false_eq_true,if_false]
   rw [qi (la (xs:=s.b) (body:=(λ(uB:Int) (uE:Unit)=>((fW (s).b uB).bind λuC=>(jU uC).bind λuD=>if !(uD) then some (.inr (-1)) else some (.inl ()):Option ((Unit) ⊕ (Int))))) (λb=>!jn b) (-1) (λl x r he=>by
    rw [he,iO,obS,sB,obS]))]
   have e:s.b.any (λb=>!jn b)=!s.b.all jn:=by rw [List.not_all_eq_any_not]
   rw [e]
   cases hd:s.b.all jn with
   | false =>
    show some (-1:Int)=_
    unfold mR
    rw [if_neg]
    rintro ⟨_,h2,_⟩
    rw [hd] at h2;cases h2
   | true =>
    show (strconv_Atoi s).bind _=_
    rw [zJ h0 (by omega) hd,obS]
    unfold mR
    by_cases h:vD 0 s.b≤255
    ·have e3 : ¬ (255 : Int) < ((vD 0 s.b : Nat) : Int) := by omega
     simp only [e3,decide_false,Bool.false_eq_true,if_false]
     rw [if_pos ⟨h0,hd,hzb,h⟩]
    ·have e3 : (255 : Int) < ((vD 0 s.b : Nat) : Int) := by omega
     simp only [e3,decide_true,if_true]
     rw [if_neg (λh'=>h h'.2.2.2)]
theorem bj3 {b:UInt8} (h:jn b=true):(b - (48:UInt8)).toNat=b.toNat - 48:=by
 have:=np.1 h
 rw [UInt8.toNat_sub]
 have h48:(48:UInt8).toNat=48:=rfl
 omega
theorem zN {s:Str} (hl:s.b.length≤17):forN (λ(uA:Int) (uB:Int)=>(((fW (s).b uA).bind λuC=>if decide (uC<(48:UInt8)) then some true else (fW (s).b uA).bind λuD=>some (decide ((57:UInt8)<uD)):Option (Bool)).bind λuE=>if uE then some (.inr (0,false)) else (fW (s).b uA).bind λuF=>some (.inl (w64 ((w64 (uB*10))+((((uF - (48:UInt8))).toNat:Int))))):Option ((Int) ⊕ (Int × Bool)))) (((s.b.length:Int):Int) - 0).toNat 0 0=if s.b.all jn then some (.inl ((vD 0 s.b:Nat):Int)) else some (.inr ((0:Int),false)):=by
 rcases jI (xs:=s.b) (body:=(λ(uA:Int) (uB:Int)=>(((fW (s).b uA).bind λuC=>if decide (uC<(48:UInt8)) then some true else (fW (s).b uA).bind λuD=>some (decide ((57:UInt8)<uD)):Option (Bool)).bind λuE=>if uE then some (.inr (0,false)) else (fW (s).b uA).bind λuF=>some (.inl (w64 ((w64 (uB*10))+((((uF - (48:UInt8))).toNat:Int))))):Option ((Int) ⊕ (Int × Bool))))) (s:=(0:Int)) (λl x=>l.all jn=true∧x=((vD 0 l:Nat):Int)) (λy=>y=((0:Int),false)∧s.b.all jn=false) ⟨rfl,rfl⟩ (λl c r x he hI=>by
  obtain ⟨h1,rfl⟩:=hI
  have hlen:=congrArg List.length he
  simp at hlen
  rw [he,iO,obS,obS,obS]
  have hc1:(if decide (c<(48:UInt8)) then some true else some (decide ((57:UInt8)<c)):Option Bool)=some (!jn c):=by
   unfold jn
   have a1:decide ((48:UInt8)≤c)=!decide (c<(48:UInt8)):=by
    rw [← decide_not,decide_eq_decide];exact UInt8.not_lt.symm
   have a2:decide (c≤(57:UInt8))=!decide ((57:UInt8)<c):=by
    rw [← decide_not,decide_eq_decide];exact UInt8.not_lt.symm
   rw [a1,a2]
   cases decide (c<(48:UInt8))<;>simp
  rw [hc1,obS]
  cases hd:jn c with
  | false =>
   refine .inr ⟨_,rfl,rfl,?_⟩
   rw [List.all_append,List.all_cons,hd];simp
  | true =>
   refine .inl ⟨_,rfl,by rw [List.all_append,h1,List.all_cons,hd];rfl,?_⟩
   have hv:=ao1 l 0 h1
   have hp:(10:Nat) ^ l.length≤10 ^ 16:=Nat.pow_le_pow_right (by decide) (by omega)
   have hcd:=np.1 hd
   rw [af2,bj3 hd,hO (n:=((vD 0 l:Nat):Int)*10) (by omega) (by omega),hO (by omega) (by omega)]
   omega) with ⟨x,h1,h2,rfl⟩ | ⟨y,h1,rfl,h2⟩
 ·rw [h1,h2];rfl
 ·rw [h1,h2];rfl
theorem xY (s:Str):∃ n ok,nF s=some (n,ok)∧(ok&&inB n 0 255)=decide (0≤mR s)∧(0≤mR s→n=mR s):=by
 have hneg:∀ {p:Prop},mR s=-1→(0≤mR s→p):=λh h'=>by omega
 unfold nF
 cases hs:s.b with
 | nil =>
  have:mR s=-1:=by unfold mR;rw [hs];simp
  refine ⟨0,false,?_,by rw [this];rfl,hneg this⟩
  simp [hs]
 | cons c l =>
  have hg:fW (c::l) 0=some c:=rfl
  have h1:(if decide (0<((c::l).length:Int)) then (fW (c::l) 0).bind λuB=>some (decide (uB=(45:UInt8))) else some false:Option Bool)=some (decide (c=45)):=by
   rw [if_pos (by simp),hg,obS]
  rw [h1,obS]
  have hz2:∀ (t:Str) (d:UInt8) (m:List UInt8) (ng:Bool),t.b=d::m→(if decide (((t).b.length:Int)=0) then some true else if decide (17<((t).b.length:Int)) then some true else (fW (t).b 0).bind λuC=>if decide (uC=(48:UInt8)) then (if decide (1<((t).b.length:Int)) then some true else some ng) else some false:Option Bool)=some (decide (17<t.b.length)||(decide (d=48)&&(decide (1<t.b.length)||ng))):=λt d m ng ht=>by
   have hg2:fW t.b 0=some d:=by rw [ht];rfl
   have a0:¬ ((t.b.length:Int)=0):=by rw [ht];simp;omega
   have a1:decide (17<(t.b.length:Int))=decide (17<t.b.length):=by rw [decide_eq_decide];omega
   have a2:decide (1<(t.b.length:Int))=decide (1<t.b.length):=by rw [decide_eq_decide];omega
   simp only [a0,decide_false,Bool.false_eq_true,if_false,a1,a2,hg2,obS]
   cases decide (17<t.b.length)<;>cases decide (d=48)<;>cases decide (1<t.b.length)<;>rfl
  by_cases hm:c=45
  ·subst hm
   have hI:mR s=-1:=by
    unfold mR
    rw [if_neg]
    rintro ⟨_,h2,_⟩
    rw [hs,List.all_cons] at h2
    simp [jn] at h2
   obtain ⟨t,ht,htb⟩:∃ t,ox s 1 (s.b.length:Int)=some t∧t.b=l:=by
    refine ⟨_,ky.2 ⟨⟨by omega,by rw [hs];simp;omega,by omega⟩,rfl⟩,?_⟩
    show ((s.b.take _).drop _)=l
    rw [hs];simp
   have hsub:(if decide ((45:UInt8)=45) then (ox s 1 (((45:UInt8)::l).length:Int)).bind λuA=>some uA else some s:Option Str)=some t:=by
    rw [hs] at ht
    rw [if_pos (by decide),ht];rfl
   rw [hsub,obS]
   cases hl:l with
   | nil =>
    rw [hl] at htb
    refine ⟨0,false,?_,by rw [hI];rfl,hneg hI⟩
    simp [htb]
   | cons d m =>
    rw [hl] at htb
    rw [hz2 t d m _ htb,obS]
    cases hb:(decide (17<t.b.length)||(decide (d=48)&&(decide (1<t.b.length)||decide ((45:UInt8)=45)))) with
    | true=>exact ⟨0,false,rfl,by rw [hI];rfl,hneg hI⟩
    | false =>
     simp only [Bool.or_eq_false_iff,decide_eq_false_iff_not] at hb
     simp only [Bool.false_eq_true,if_false]
     rw [qi (zN (s:=t) (by omega))]
     cases hd:t.b.all jn with
     | false=>exact ⟨0,false,rfl,by rw [hI];rfl,hneg hI⟩
     | true =>
      have h48:d≠48:=by
       rintro rfl
       simp at hb
      rw [htb,List.all_cons,Bool.and_eq_true,np] at hd
      have hlen:t.b.length≤17:=by omega
      have hv:=ak0 m (d.toNat - 48)
      have e:vD 0 t.b=vD (d.toNat - 48) m:=by rw [htb];show vD (0*10+(d.toNat - 48)) m=_;rw [Nat.zero_mul,Nat.zero_add]
      have h2:d.toNat≠48:=λe=>h48 (UInt8.toNat_inj.1 e)
      have h5:1*10 ^ m.length≤(d.toNat - 48)*10 ^ m.length:=Nat.mul_le_mul_right _ (by omega)
      have h6:0<10 ^ m.length:=Nat.pow_pos (by decide)
      have h7:=ao1 t.b 0 (by rw [htb,List.all_cons,Bool.and_eq_true,np];exact hd)
      have h8:(10:Nat) ^ t.b.length≤10 ^ 17:=Nat.pow_le_pow_right (by decide) hlen
      refine ⟨-((vD 0 t.b:Nat):Int),true,?_,?_,hneg hI⟩
      ·have hw : w64 (0 - ((vD 0 t.b : Nat) : Int)) = -((vD 0 t.b : Nat) : Int) := by rw [hO (by omega) (by omega), Int.zero_sub]
       simp only [if_true,obS,Sum.elim_inl,decide_true,hw]
      ·rw [hI]
       have h9:decide (0≤-((vD 0 t.b:Nat):Int))=false:=by rw [decide_eq_false_iff_not];omega
       unfold inB
       rw [h9];rfl
  ·have hsub : (if decide (c = 45) then (ox s 1 ((c :: l).length : Int)).bind fun uA => some uA else some s : Option Str) = some s := by rw [if_neg (by simpa using hm)]
   rw [hsub,obS,hz2 s c l _ hs,obS]
   have hcm:decide (c=45)=false:=by simpa using hm
   rw [hcm,Bool.or_false]
   have hzb:qT s.b=(decide (c=48)&&decide (1<s.b.length)):=by
    unfold qT
    rw [Bool.and_comm,hs];simp
   rw [← hzb]
   cases hb:(decide (17<s.b.length)||qT s.b) with
   | true =>
    have hI:mR s=-1:=by
     unfold mR
     rw [if_neg]
     rintro ⟨_,h2,h3,h4⟩
     rw [h3,Bool.or_false,decide_eq_true_iff] at hb
     have:=w6 h3 h2 (by omega)
     omega
    exact ⟨0,false,rfl,by rw [hI];rfl,hneg hI⟩
   | false =>
    rw [Bool.or_eq_false_iff,decide_eq_false_iff_not] at hb
    simp only [Bool.false_eq_true,if_false]
    rw [qi (zN (s:=s) (by omega))]
    cases hd:s.b.all jn with
    | false =>
     have hI:mR s=-1:=by
      unfold mR
      rw [if_neg]
      rintro ⟨_,h2,_⟩
      rw [hd] at h2;cases h2
     exact ⟨0,false,rfl,by rw [hI];rfl,hneg hI⟩
    | true =>
     refine ⟨((vD 0 s.b:Nat):Int),true,rfl,?_,λh=>?_⟩
     ·unfold mR
      by_cases h:vD 0 s.b≤255
      ·rw [if_pos ⟨by rw [hs]; simp, hd, hb.2, h⟩]
       have a:((vD 0 s.b:Nat):Int)≤255:=by omega
       simp [inB,a]
      ·rw [if_neg (λh'=>h h'.2.2.2)]
       have a:¬ ((vD 0 s.b:Nat):Int)≤255:=by omega
       simp [inB,a]
     ·unfold mR at h ⊢
      split
      ·rfl
      ·rename_i h';rw [if_neg h'] at h;omega
end Prg
end Go.Wk
namespace Go.Wk
open Go
namespace Prg
set_option maxRecDepth 10000
def k7 (w:eu):Bool :=
 if w.kind=1 then ic w.text else if w.kind=2 then decide (0≤mR w.text) else if w.kind=3 then (match w.text.b with | [c]=>decide (c∈nP) | _=>false) else if w.kind=4 then ov w.text else false
def zQ (w:eu):Int:=if w.kind=2 then mR w.text else -1
theorem rT (c:UInt8):∀ l:List UInt8,0≤Lib.indexByte l c↔c∈l
 | []=>by simp [Lib.indexByte]
 | b::l=>by
  have ih:=rT c l
  have hg:=Lib.indexByte_ge l c
  unfold Lib.indexByte
  by_cases h:b=c
  ·subst h;simp
  ·have h1:(b == c)=false:=beq_eq_false_iff_ne.2 h
   rw [h1]
   simp only [Bool.false_eq_true,if_false,List.mem_cons]
   by_cases h2:Lib.indexByte l c=-1
   ·have h3 : (Lib.indexByte l c == -1) = true := by rw [h2]; rfl
    rw [h3]
    simp only [if_true]
    rw [h2] at ih
    constructor
    ·intro h';omega
    ·rintro (h' | h')
     ·exact absurd h'.symm h
     ·have:=ih.2 h';omega
   ·have h3:(Lib.indexByte l c == -1)=false:=beq_eq_false_iff_ne.2 h2
    rw [h3]
    simp only [Bool.false_eq_true,if_false]
    constructor
    ·intro h';exact .inr (ih.1 (by omega))
    ·rintro (h' | h')
     ·exact absurd h'.symm h
     ·have:=ih.2 h';omega
theorem s7 (w:eu):kM w=some (k7 w):=by
 unfold kM k7
 rw [sT,wI,zk,obS,obS,obS]
 by_cases h1:w.kind=1
 ·simp [h1]
 by_cases h2:w.kind=2
 ·simp [h2]
 by_cases h3:w.kind=3
 ·simp only [h3, decide_true, if_true, show ((3 : Int) = 1) = False by simp, show ((3 : Int) = 2) = False by simp, decide_false, Bool.false_eq_true, if_false]
  cases hb:w.text.b with
  | nil=>simp
  | cons c l =>
   cases l with
   | nil =>
    have:mS (mkS [40,41,123,125,59,44,43,45,42,47,37,60,61,38,33,64]) w.text=some (decide (c∈nP)):=by
     unfold mS rH
     rw [hb]
     show some (decide (0≤Lib.indexByte nP c))=_
     congr 1
     exact decide_eq_decide.2 (rT c nP)
    simp [this]
   | cons d l=>simp;omega
 by_cases h4:w.kind=4
 ·simp [h4,ov]
 ·simp [h1,h2,h3,h4]
theorem bn0 (b:UInt8):decide (k8 b=3)=decide (b∈nP):=by
 cases h1:kH b<;>cases h2:jn b<;>by_cases h3:b∈nP<;>by_cases h4:b=32∨b=10<;>simp [k8,h1,h2,h3,h4]
 all_goals
  have key:∀ c∈nP,kH c=false∧jn c=false:=by decide
  have:=key b h3
  simp_all
theorem tA (w:eu):kJ w=some (k7 w):=by
 unfold kJ k7
 rw [qo,zV,obS,obS]
 by_cases h1:w.kind=1
 ·simp [h1]
 by_cases h2:w.kind=2
 ·simp only [h2, decide_true, if_true, show ((2 : Int) = 1) = False by simp, decide_false, Bool.false_eq_true, if_false]
  obtain ⟨n,ok,e1,e2,_⟩:=xY w.text
  rw [e1,obS,vc,obS,← e2]
  cases ok<;>rfl
 by_cases h3:w.kind=3
 ·simp only [h3, decide_true, if_true, show ((3 : Int) = 1) = False by simp, show ((3 : Int) = 2) = False by simp, decide_false, Bool.false_eq_true, if_false]
  cases hb:w.text.b with
  | nil=>simp
  | cons c l =>
   cases l with
   | nil =>
    have:fW [c] 0=some c:=rfl
    simp [this,oA,bn0]
   | cons d l=>simp;omega
 by_cases h4:w.kind=4
 ·simp [h4]
 ·simp [h1,h2,h3,h4]
theorem ag6 (w:eu):mi w=some (zQ w):=by
 unfold mi zQ
 rw [wI]
 by_cases h:w.kind=2<;>simp [h]
theorem zU (w:eu):mn w=some (zQ w):=by
 unfold mn zQ
 by_cases h:w.kind=2
 ·obtain ⟨n,ok,e1,e2,e3⟩:=xY w.text
  simp only [h,ne_eq,not_true_eq_false,decide_false,Bool.false_eq_true,if_false,if_true,tA,e1,obS]
  have:k7 w=decide (0≤mR w.text):=by unfold k7;rw [if_neg (by rw [h];decide),if_pos h]
  rw [this]
  by_cases h0:0≤mR w.text
  ·simp [h0,e3 h0]
  ·have:mR w.text=-1:=by
    unfold mR at h0 ⊢
    split
    ·rename_i h';rw [if_pos h'] at h0;omega
    ·rfl
   simp [h0,this]
 ·simp [h]
def toS (l:List UInt8):Str:=if h:l.length≤140737488355328 then ⟨l,h⟩ else mkS []
theorem wb {l:List UInt8} (h:l.length≤140737488355328):(toS l).b=l:=by unfold toS;rw [dif_pos h]
theorem be6 {s:Str}:toS s.b=s:=by unfold toS;rw [dif_pos s.h]
def pf (c:UInt8) (s:Str):Int:=if ov s then 4 else if kH c then 1 else if jn c then 2 else 3
theorem sF {s:Str} {c:UInt8} {l:List UInt8} (hs:s.b=c::l) (h:ov s=true):kH c=true:=by
 have hm:s∈fP:=of_decide_eq_true h
 have key:∀ k∈fP,∃ c l,k.b=c::l∧kH c=true:=by
  intro k hk
  unfold fP at hk
  simp only [List.mem_cons,List.not_mem_nil,or_false] at hk
  rcases hk with rfl | rfl | rfl | rfl | rfl | rfl | rfl | rfl | rfl<;>exact ⟨_,_,rfl,by decide⟩
 obtain ⟨c',l',h1,h2⟩:=key s hm
 rw [hs] at h1
 cases h1;exact h2
theorem ve {c:UInt8} (h:kH c=true):jn c=false:=by
 cases hd:jn c with
 | false=>rfl
 | true=>have:=vZ.1 h;have:=np.1 hd;omega
theorem au7 {s:Str} {c:UInt8} {l:List UInt8} (hs:s.b=c::l):nK s=some ⟨pf c s,s⟩:=by
 unfold nK pf
 have hg:fW s.b 0=some c:=by rw [hs];rfl
 rw [hg,obS,sB,zk,obS,obS,obS,tH,obS]
 show (if jn c then some (⟨2,s⟩:eu) else if ov s then some ⟨4,s⟩ else if kH c then some ⟨1,s⟩ else some ⟨3,s⟩)=_
 cases hk:ov s with
 | true=>rw [ve (sF hs hk)];rfl
 | false=>cases hl:kH c<;>cases hd:jn c<;>first | rfl | (rw [ve hl] at hd;cases hd)
theorem ao8 {s:Str} {c:UInt8} {l:List UInt8} (hs:s.b=c::l) (hc:k8 c≠0) (hc4:k8 c≠4):kd s=some ⟨pf c s,s⟩:=by
 unfold kd pf
 have hg:fW s.b 0=some c:=by rw [hs];rfl
 rw [hg,obS,oA,zV,obS,obS]
 cases hk:ov s with
 | true=>rfl
 | false =>
  show some (⟨k8 c,s⟩:eu)=_
  have:k8 c=if kH c then 1 else if jn c then 2 else 3:=by
   revert hc hc4
   unfold k8
   cases kH c<;>cases jn c<;>(try by_cases h3:c∈nP)<;>(try by_cases h4:c=32∨c=10)<;>simp [*]
  rw [this];rfl
end Prg
end Go.Wk
namespace Go.Wk
open Go
namespace Prg
set_option maxRecDepth 10000
def jd (c:UInt8) (x:UInt8):Bool:=if kH c then kH x else if jn c then jn x else false
def pZ (c:UInt8) (l:List UInt8):eu:=⟨pf c (toS (c::l)),toS (c::l)⟩
def sU (c:UInt8):Bool:=decide (c=32∨c=10)
theorem qx (p:UInt8→Bool):∀ l:List UInt8,(l.dropWhile p).length≤l.length
 | []=>Nat.le_refl _
 | a::l=>by
  rw [List.dropWhile_cons]
  split
  ·exact Nat.le_trans (qx p l) (Nat.le_succ _)
  ·exact Nat.le_refl _
def tok (l:List UInt8):Option (List eu):=match l with
 | []=>some []
 | c :: r => if sU c then tok r else
  if k7 (pZ c (r.takeWhile (jd c))) then (tok (r.dropWhile (jd c))).map (pZ c (r.takeWhile (jd c))::·) else none
termination_by l.length
decreasing_by
 ·simp
 ·exact Nat.lt_succ_of_le (qx _ _)
theorem qK:tok []=some []:=by rw [tok]
theorem pg (c : UInt8) (r : List UInt8) : tok (c :: r) = if sU c then tok r else
  if k7 (pZ c (r.takeWhile (jd c))) then (tok (r.dropWhile (jd c))).map (pZ c (r.takeWhile (jd c))::·) else none:=by rw [tok]
def rX (s:Str):Option (List eu):=if s.b.length≤3000 then (tok s.b).filter (λws=>decide (ws.length≤600)) else none
def zC (s:Str):List eu × Bool:=match rX s with
 | some ws=>(ws,true)
 | none=>([],false)
theorem yq {s:Str} (hs:s.b.length≤3000) (p:UInt8→Bool) {body:Int→Option (Int ⊕ Int)}
  (hb:∀ k:Int,body k=(if decide (k<(s.b.length:Int)) then (fW s.b k).bind λx=>some (p x) else some false:Option Bool).bind λt=>if t then some (.inl (w64 (k+1))) else some (.inr k)) :
  ∀ (l:List UInt8) (k:Nat),s.b.drop k=l→k≤s.b.length→gG body (k:Int)=some ((k+(l.takeWhile p).length:Nat):Int):=by
 intro l
 induction l with
 | nil =>
  intro k he hk
  have:s.b.length≤k:=List.drop_eq_nil_iff.1 he
  refine gH ?_
  rw [hb,if_neg (by simp;omega)]
  simp
 | cons c l ih =>
  intro k he hk
  have hlt:k<s.b.length:=by
   rcases Nat.lt_or_ge k s.b.length with h | h
   ·exact h
   ·rw [List.drop_eq_nil_of_le h] at he;cases he
  have hg:fW s.b (k:Int)=some c:=by
   rw [om]
   have:=congrArg (λl=>l[0]?) he
   simpa using this
  have hd:s.b.drop (k+1)=l:=by rw [← List.drop_drop,he];rfl
  rw [List.takeWhile_cons]
  cases hp:p c with
  | true =>
   have:=ih (k+1) hd (by omega)
   rw [iz (s':=((k+1:Nat):Int))]
   ·rw [this];simp;omega
   ·rw [hb, if_pos (by simp; omega), hg, obS, hp, obS, if_pos rfl, hO (by omega) (by omega)]
    rfl
  | false =>
   refine gH ?_
   rw [hb,if_pos (by simp;omega),hg,obS,hp,obS]
   simp
theorem xP (p:UInt8→Bool) (l:List UInt8):l.drop (l.takeWhile p).length=l.dropWhile p:=by
 conv=>lhs;arg 2;rw [← List.takeWhile_append_dropWhile (p:=p) (l:=l)]
 rw [List.drop_left]
theorem af3 {s:Str} {k:Nat} {c:UInt8} {r:List UInt8} (p:UInt8→Bool) (he:s.b.drop k=c::r) (hk:k+1+(r.takeWhile p).length≤s.b.length):ox s (k:Int) ((k+1+(r.takeWhile p).length:Nat):Int)=some (toS (c::r.takeWhile p)):=by
 refine ky.2 ⟨⟨by omega,by omega,by omega⟩,Str.ext' ?_⟩
 have hl:(c::r.takeWhile p).length≤140737488355328:=by
  have:=s.h
  simp;omega
 rw [wb hl]
 show (s.b.take _).drop _=_
 rw [List.drop_take,show ((k:Int)).toNat=k by omega,he,show (((k+1+(r.takeWhile p).length:Nat):Int)).toNat - k=(r.takeWhile p).length+1 by omega,List.take_succ_cons]
 congr 1
 conv=>lhs;arg 2;rw [← List.takeWhile_append_dropWhile (p:=p) (l:=r)]
 rw [List.take_left]
theorem as8 {c x:UInt8} (hc:sU c=false) (h0:k8 c≠0):(decide (k8 x=k8 c)&&decide (k8 c<3))=jd c x:=by
 unfold jd
 cases h1:kH c with
 | true =>
  have:k8 c=1:=by unfold k8;rw [h1];rfl
  rw [this,bj9];simp
 | false =>
  cases h2:jn c with
  | true =>
   have e:k8 c=2:=by unfold k8;rw [h1,h2];rfl
   have e2:decide (k8 x=2)=jn x:=by
    cases h3:kH x<;>cases h4:jn x<;>by_cases h5:x∈nP<;>by_cases h6:x=32∨x=10<;>simp [k8,h3,h4,h5,h6]
    all_goals (have:=ve h3;rw [h4] at this;cases this)
   rw [e,e2];simp
  | false =>
   have:¬ k8 c<3:=by
    revert h0
    unfold k8
    rw [h1,h2]
    by_cases h5:c∈nP<;>by_cases h6:c=32∨c=10<;>simp [h5,h6]
   simp [this]
theorem ac1 (c:UInt8):sU c=decide (k8 c=4):=by
 unfold sU
 by_cases h:c=32∨c=10
 ·rcases h with rfl | rfl<;>decide
 ·rw [decide_eq_false h]
  symm
  rw [decide_eq_false_iff_not]
  unfold k8
  cases kH c<;>cases jn c<;>by_cases h5:c∈nP<;>simp [h,h5]
def ah9 (acc:List eu) (o:Option (List eu)):(List eu × Bool) ⊕ List eu:=match o with
 | some ws=>if acc.length+ws.length≤600 then .inr (acc++ws) else .inl ([],false)
 | none=>.inl ([],false)
theorem am8 {s:Str} (hs:s.b.length≤3000):∀ (n:Nat) (l:List UInt8) (k:Nat) (acc:List eu),l.length≤n→s.b.drop k=l→k≤s.b.length→acc.length≤600→gG (λ(uA:(List eu) × Int)=>(if decide (uA.2<(((s).b.length:Int))) then (((fW (s).b uA.2).bind λuO=>if decide (uO=(32:UInt8)) then some true else (fW (s).b uA.2).bind λuE=>some (decide (uE=(10:UInt8))):Option (Bool)).bind λuP=>if uP then some (.inl (uA.1,w64 (uA.2+1))) else ((fW (s).b uA.2).bind λuQ=>(ja uQ).bind λuF=>(if uF then some (λy0=>ja y0) else (fW (s).b uA.2).bind λuG=>(jU uG).bind λuH=>(if uH then some (λy0=>jU y0) else some (λy0=>lj y0):Option ((UInt8→Option Bool))).bind λuI=>some uI:Option ((UInt8→Option Bool))).bind λuJ=>some uJ:Option ((UInt8→Option Bool))).bind λuR=>((gG (S:=Int) (X:=Int) (λuB=>(if decide (uB<(((s).b.length:Int))) then (fW (s).b uB).bind λuC=>(uR uC).bind λuD=>some uD else some false:Option (Bool)).bind λuK=>if uK then some (.inl (w64 (uB+1))) else some (.inr uB)) (w64 (uA.2+1))).bind (λe0=>some e0):Option (Int)).bind λuL=>(ox s uA.2 uL).bind λuS=>(nK uS).bind λuM=>((kM uM).bind λuT=>if !(uT) then some true else some (decide (((uA.1.length:Int))=600)):Option (Bool)).bind λuU=>if uU then some (.inr ([],false)) else (fq uA.1 ([uM]:List eu)).bind λuV=>some (.inl (uV,uL)):Option (((List eu) × Int) ⊕ ((List eu) × Bool))).bind (Sum.elim (λuN=>some (.inl (uN.1,uN.2))) (λe0=>some (.inr (.inl e0)))) else some (.inr (.inr uA.1)):Option (((List eu) × Int) ⊕ (((List eu) × Bool) ⊕ (List eu))))) (acc,(k:Int))=some (ah9 acc (tok l)):=by
 intro n
 induction n with
 | zero =>
  intro l k acc hl he hk ha
  have:l=[]:=List.eq_nil_of_length_eq_zero (by omega)
  subst this
  have h1:s.b.length≤k:=List.drop_eq_nil_iff.1 he
  refine gH ?_
  dsimp only
  rw [if_neg (by simp;omega),qK]
  simp [ah9,ha]
 | succ n ih =>
  intro l k acc hl he hk ha
  cases l with
  | nil =>
   have h1:s.b.length≤k:=List.drop_eq_nil_iff.1 he
   refine gH ?_
   dsimp only
   rw [if_neg (by simp;omega),qK]
   simp [ah9,ha]
  | cons c r =>
   have hlt:k<s.b.length:=by
    rcases Nat.lt_or_ge k s.b.length with h | h
    ·exact h
    ·rw [List.drop_eq_nil_of_le h] at he;cases he
   have hg:fW s.b (k:Int)=some c:=by
    rw [om]
    have:=congrArg (λl=>l[0]?) he
    simpa using this
   have hd:s.b.drop (k+1)=r:=by rw [← List.drop_drop,he];rfl
   have hrl:r.length+(k+1)=s.b.length:=by
    have:=congrArg List.length hd
    simp at this;omega
   have hblk:(if decide (c=(32:UInt8)) then some true else (fW s.b (k:Int)).bind λuE=>some (decide (uE=(10:UInt8))):Option Bool)=some (sU c):=by
    rw [hg,obS]
    unfold sU
    by_cases h:c=32<;>simp [h]
   rw [pg]
   cases hb:sU c with
   | true =>
    simp only [if_true]
    rw [iz (s':=(acc,((k+1:Nat):Int)))]
    ·exact ih r (k+1) acc (by simp at hl;omega) hd (by omega) ha
    ·dsimp only
     rw [if_pos (by simp;omega),hg,obS]
     rw [hg] at hblk
     rw [hblk,hb,obS,if_pos rfl,hO (by omega) (by omega)]
     rfl
   | false =>
    simp only [Bool.false_eq_true,if_false]
    have hsel:∃ f:UInt8→Option Bool,((ja c).bind λuF=>(if uF then some (λy0=>ja y0) else (fW s.b (k:Int)).bind λuG=>(jU uG).bind λuH=>(if uH then some (λy0=>jU y0) else some (λy0=>lj y0):Option ((UInt8→Option Bool))).bind λuI=>some uI:Option ((UInt8→Option Bool))).bind λuJ=>some uJ:Option (UInt8→Option Bool))=some f∧∀ x,f x=some (jd c x):=by
     rw [tH,obS,hg,obS,sB,obS]
     unfold jd
     cases kH c with
     | true=>exact ⟨_,rfl,λx=>tH x⟩
     | false =>
      cases jn c with
      | true=>exact ⟨_,rfl,λx=>sB x⟩
      | false=>exact ⟨_,rfl,λx=>rfl⟩
    obtain ⟨f,hf1,hf2⟩:=hsel
    have hrun:=yq hs (jd c) (body:=(λ(uB:Int)=>((if decide (uB<(((s).b.length:Int))) then (fW (s).b uB).bind λuC=>(f uC).bind λuD=>some uD else some false:Option (Bool)).bind λuK=>if uK then some (.inl (w64 (uB+1))) else some (.inr uB):Option ((Int) ⊕ (Int))))) (λk=>by rw [show (λuC=>(f uC).bind λuD=>some uD)=λx=>some (jd c x) from funext λx=>by rw [hf2,obS]]) r (k+1) hd (by omega)
    have htl:(r.takeWhile (jd c)).length≤r.length:=by
     exact (List.takeWhile_sublist _).length_le
    have hsub:=af3 (s:=s) (k:=k) (jd c) he (by omega)
    have hwl:(c::r.takeWhile (jd c)).length≤140737488355328:=by have:=s.h;simp;omega
    have hw:=au7 (s:=toS (c::r.takeWhile (jd c))) (wb hwl)
    have hk1:w64 ((k:Int)+1)=((k+1:Nat):Int):=by rw [hO (by omega) (by omega)];rfl
    have hnext:s.b.drop (k+1+(r.takeWhile (jd c)).length)=r.dropWhile (jd c):=by rw [← List.drop_drop,hd,xP]
    have hw2:(⟨pf c (toS (c::r.takeWhile (jd c))),toS (c::r.takeWhile (jd c))⟩:eu)=pZ c (r.takeWhile (jd c)):=rfl
    rw [hw2] at hw
    rw [hg] at hblk
    simp only [hg,obS] at hf1
    have hdl:=qx (jd c) r
    cases hv:k7 (pZ c (r.takeWhile (jd c))) with
    | false =>
     refine gH ?_
     dsimp only
     rw [if_pos (by simp;omega),hg,obS,hblk,hb,obS]
     simp only [Bool.false_eq_true,if_false,obS]
     rw [hf1,obS,hk1,hrun,obS,obS,hsub,obS,hw,obS,s7,hv]
     rfl
    | true =>
     by_cases h6:acc.length=600
     ·rw [gH (x:=.inl ([],false))]
      ·simp only [if_true]
       cases tok (r.dropWhile (jd c)) with
       | none=>rfl
       | some ws=>simp [ah9,h6]
      ·dsimp only
       rw [if_pos (by simp;omega),hg,obS,hblk,hb,obS]
       simp only [Bool.false_eq_true,if_false,obS]
       rw [hf1,obS,hk1,hrun,obS,obS,hsub,obS,hw,obS,s7,hv,h6]
       rfl
     ·rw [iz (s':=(acc++[pZ c (r.takeWhile (jd c))],((k+1+(r.takeWhile (jd c)).length:Nat):Int)))]
      ·rw [ih (r.dropWhile (jd c)) (k + 1 + (r.takeWhile (jd c)).length) (acc ++ [pZ c (r.takeWhile (jd c))]) (by simp at hl; omega) hnext (by omega) (by simp; omega)]
       simp only [if_true]
       cases tok (r.dropWhile (jd c)) with
       | none=>rfl
       | some ws =>
        unfold ah9
        simp only [Option.map_some,List.length_append,List.length_cons,List.length_nil,List.append_assoc,List.singleton_append]
        rw [show acc.length+(0+1)+ws.length=acc.length+(ws.length+1) by omega]
      ·have h6' : decide ((acc.length : Int) = 600) = false := by rw [decide_eq_false_iff_not]; omega
       dsimp only
       rw [if_pos (by simp;omega),hg,obS,hblk,hb,obS]
       simp only [Bool.false_eq_true,if_false,obS]
       rw [hf1,obS,hk1,hrun,obS,obS,hsub,obS,hw,obS,s7,hv,obS]
       simp only [Bool.not_true,Bool.false_eq_true,if_false,h6',obS]
       rw [jH (by simp;omega),obS]
       rfl
theorem nz (s:Str):jr s=some (zC s):=by
 unfold jr zC rX
 by_cases hs:s.b.length≤3000
 ·have h1 : ¬ (3000 : Int) < (s.b.length : Int) := by omega
  simp only [h1,decide_false,Bool.false_eq_true,if_false,hs,if_true]
  have:=am8 hs s.b.length s.b 0 [] (Nat.le_refl _) rfl (Nat.zero_le _) (by simp)
  rw [show ((0:Nat):Int)=0 from rfl] at this
  rw [qi (qi this)]
  cases tok s.b with
  | none=>rfl
  | some ws =>
   unfold ah9
   simp only [List.length_nil,Nat.zero_add,List.nil_append,Option.filter]
   by_cases h:ws.length≤600<;>simp [h]
 ·have h1 : (3000 : Int) < (s.b.length : Int) := by omega
  simp [h1,hs]
end Prg
end Go.Wk
namespace Go.Wk
open Go
namespace Prg
set_option maxRecDepth 10000
def aw6 (acc:List eu) (o:Option (List eu)):(List eu × Bool) ⊕ List eu:=match o with
 | some ws=>.inr (acc++ws)
 | none=>.inl ([],false)
theorem ap8 {s:Str} (hs:s.b.length≤3000):∀ (n:Nat) (l:List UInt8) (k:Nat) (acc:List eu),l.length≤n→s.b.drop k=l→k≤s.b.length→acc.length≤k→gG (λ(uA:(List eu) × Int)=>((if decide (uA.2<(((s).b.length:Int))) then some (decide ((((s).b.length:Int))≤3000)) else some false:Option (Bool)).bind λuH=>if uH then (fW (s).b uA.2).bind λuI=>(ir uI).bind λuC=>((gG (S:=Int) (X:=Int) (λuB=>(if decide (uB<(((s).b.length:Int))) then (fW (s).b uB).bind λuD=>(ir uD).bind λuE=>if decide (uE=uC) then some (decide (uC<3)) else some false else some false:Option (Bool)).bind λuG=>if uG then some (.inl (w64 (uB+1))) else some (.inr uB)) (w64 (uA.2+1))).bind (λe0=>some e0):Option (Int)).bind λuF=>(if decide (uC≠4) then (if decide (uC=0) then some true else (ox s uA.2 uF).bind λuJ=>(kd uJ).bind λuK=>(kJ uK).bind λuL=>some (!(uL)):Option (Bool)).bind λuM=>if uM then some (.inr (([]:List eu),false)) else (ox s uA.2 uF).bind λuN=>(kd uN).bind λuO=>(fq uA.1 ([uO]:List eu)).bind λuP=>some (.inl uP) else some (.inl uA.1):Option (((List eu)) ⊕ ((List eu) × Bool))).bind (Sum.elim (λuQ=>some (.inl (uQ,uF))) (λe0=>some (.inr (.inl e0)))) else some (.inr (.inr uA.1)):Option (((List eu) × Int) ⊕ (((List eu) × Bool) ⊕ (List eu))))) (acc,(k:Int))=some (aw6 acc (tok l)):=by
 intro n
 have hend:∀ (k:Nat) (acc:List eu),s.b.drop k=[]→gG (λ(uA:(List eu) × Int)=>((if decide (uA.2<(((s).b.length:Int))) then some (decide ((((s).b.length:Int))≤3000)) else some false:Option (Bool)).bind λuH=>if uH then (fW (s).b uA.2).bind λuI=>(ir uI).bind λuC=>((gG (S:=Int) (X:=Int) (λuB=>(if decide (uB<(((s).b.length:Int))) then (fW (s).b uB).bind λuD=>(ir uD).bind λuE=>if decide (uE=uC) then some (decide (uC<3)) else some false else some false:Option (Bool)).bind λuG=>if uG then some (.inl (w64 (uB+1))) else some (.inr uB)) (w64 (uA.2+1))).bind (λe0=>some e0):Option (Int)).bind λuF=>(if decide (uC≠4) then (if decide (uC=0) then some true else (ox s uA.2 uF).bind λuJ=>(kd uJ).bind λuK=>(kJ uK).bind λuL=>some (!(uL)):Option (Bool)).bind λuM=>if uM then some (.inr (([]:List eu),false)) else (ox s uA.2 uF).bind λuN=>(kd uN).bind λuO=>(fq uA.1 ([uO]:List eu)).bind λuP=>some (.inl uP) else some (.inl uA.1):Option (((List eu)) ⊕ ((List eu) × Bool))).bind (Sum.elim (λuQ=>some (.inl (uQ,uF))) (λe0=>some (.inr (.inl e0)))) else some (.inr (.inr uA.1)):Option (((List eu) × Int) ⊕ (((List eu) × Bool) ⊕ (List eu))))) (acc,(k:Int))=some (aw6 acc (tok [])):=λk acc he=>by
  have h1:s.b.length≤k:=List.drop_eq_nil_iff.1 he
  refine gH ?_
  dsimp only
  rw [if_neg (by simp;omega),qK]
  simp [aw6]
 induction n with
 | zero =>
  intro l k acc hl he hk ha
  have:l=[]:=List.eq_nil_of_length_eq_zero (by omega)
  subst this
  exact hend k acc he
 | succ n ih =>
  intro l k acc hl he hk ha
  cases l with
  | nil=>exact hend k acc he
  | cons c r =>
   have hlt:k<s.b.length:=by
    rcases Nat.lt_or_ge k s.b.length with h | h
    ·exact h
    ·rw [List.drop_eq_nil_of_le h] at he;cases he
   have hg:fW s.b (k:Int)=some c:=by
    rw [om]
    have:=congrArg (λl=>l[0]?) he
    simpa using this
   have hd:s.b.drop (k+1)=r:=by rw [← List.drop_drop,he];rfl
   have hrl:r.length+(k+1)=s.b.length:=by
    have:=congrArg List.length hd
    simp at this;omega
   have hcond:(if decide ((k:Int)<(s.b.length:Int)) then some (decide ((s.b.length:Int)≤3000)) else some false:Option Bool)=some true:=by
    rw [if_pos (by simp;omega)];congr 1;rw [decide_eq_true_iff];omega
   have hk1:w64 ((k:Int)+1)=((k+1:Nat):Int):=by rw [hO (by omega) (by omega)];rfl
   obtain ⟨q,hq⟩:∃ q,q=k8 c:=⟨_,rfl⟩
   have hrun:=yq hs (λx=>decide (k8 x=q)&&decide (q<3)) (body:=(λ(uB:Int)=>((if decide (uB<(((s).b.length:Int))) then (fW (s).b uB).bind λuD=>(ir uD).bind λuE=>if decide (uE=q) then some (decide (q<3)) else some false else some false:Option (Bool)).bind λuG=>if uG then some (.inl (w64 (uB+1))) else some (.inr uB):Option ((Int) ⊕ (Int))))) (λk=>by
    rw [show (λuD=>(ir uD).bind λuE=>if decide (uE=q) then some (decide (q<3)) else some false)=λx=>some (decide (k8 x=q)&&decide (q<3)) from funext λx=>by
     rw [oA,obS];cases decide (k8 x=q)<;>rfl]) r (k+1) hd (by omega)
   subst hq
   rw [pg]
   cases hb:sU c with
   | true =>
    have h4:k8 c=4:=of_decide_eq_true (by rw [← ac1];exact hb)
    have hp:(λx=>decide (k8 x=k8 c)&&decide (k8 c<3))=λ_=>false:=funext λx=>by rw [h4];simp
    have ht:r.takeWhile (λ_:UInt8=>false)=[]:=by cases r<;>rfl
    rw [hp,ht] at hrun
    simp only [if_true]
    rw [iz (s':=(acc,((k+1:Nat):Int)))]
    ·exact ih r (k+1) acc (by simp at hl;omega) hd (by omega) (by omega)
    ·dsimp only
     rw [hcond,obS,if_pos rfl,hg,obS,oA,obS,hk1,hrun,obS,obS,h4]
     rfl
   | false =>
    have h4:k8 c≠4:=λh=>by rw [ac1,h] at hb;simp at hb
    simp only [Bool.false_eq_true,if_false]
    by_cases h0:k8 c=0
    ·have hv:k7 (pZ c (r.takeWhile (jd c)))=false:=by
      have hl:kH c=false:=by cases h:kH c with | false=>rfl | true=>unfold k8 at h0;rw [h] at h0;simp at h0
      have hdg:jn c=false:=by cases h:jn c with | false=>rfl | true=>unfold k8 at h0;rw [hl,h] at h0;simp at h0
      have hsg:c ∉ nP:=λh=>by unfold k8 at h0;rw [hl,hdg] at h0;simp [h] at h0
      have ht:r.takeWhile (jd c)=[]:=by
       have:jd c=λ_=>false:=funext λx=>by unfold jd;rw [hl,hdg];rfl
       rw [this];cases r<;>rfl
      rw [ht]
      have hk:ov (toS [c])=false:=by
       cases h:ov (toS [c]) with
       | false=>rfl
       | true=>have:=sF (wb (l:=[c]) (by simp)) h;rw [hl] at this;cases this
      have:pZ c []=⟨3,toS [c]⟩:=by unfold pZ pf;rw [hk,hl,hdg];rfl
      rw [this]
      unfold k7
      simp [wb (l:=[c]) (by simp),hsg]
     rw [hv]
     refine gH ?_
     dsimp only
     rw [hcond,obS,if_pos rfl,hg,obS,oA,obS,hk1,hrun,obS,obS,h0]
     rfl
    ·have hp:(λx=>decide (k8 x=k8 c)&&decide (k8 c<3))=jd c:=funext λx=>as8 hb h0
     rw [hp] at hrun
     have htl:(r.takeWhile (jd c)).length≤r.length:=(List.takeWhile_sublist _).length_le
     have hsub:=af3 (s:=s) (k:=k) (jd c) he (by omega)
     have hwl:(c::r.takeWhile (jd c)).length≤140737488355328:=by have:=s.h;simp;omega
     have hw:=ao8 (s:=toS (c::r.takeWhile (jd c))) (wb hwl) h0 h4
     have hw2:(⟨pf c (toS (c::r.takeWhile (jd c))),toS (c::r.takeWhile (jd c))⟩:eu)=pZ c (r.takeWhile (jd c)):=rfl
     rw [hw2] at hw
     have hdl:=qx (jd c) r
     have hnext:s.b.drop (k+1+(r.takeWhile (jd c)).length)=r.dropWhile (jd c):=by rw [← List.drop_drop,hd,xP]
     have h4':decide (k8 c≠4)=true:=decide_eq_true h4
     have h0':decide (k8 c=0)=false:=decide_eq_false h0
     cases hv:k7 (pZ c (r.takeWhile (jd c))) with
     | false =>
      refine gH ?_
      dsimp only
      rw [hcond,obS,if_pos rfl,hg,obS,oA,obS,hk1,hrun,obS,obS,h4',h0']
      simp only [if_true,Bool.false_eq_true,if_false]
      rw [hsub,obS,hw,obS,tA,hv]
      rfl
     | true =>
      simp only [if_true]
      rw [iz (s':=(acc++[pZ c (r.takeWhile (jd c))],((k+1+(r.takeWhile (jd c)).length:Nat):Int)))]
      ·rw [ih (r.dropWhile (jd c)) (k + 1 + (r.takeWhile (jd c)).length) (acc ++ [pZ c (r.takeWhile (jd c))]) (by simp at hl; omega) hnext (by omega) (by simp; omega)]
       cases tok (r.dropWhile (jd c)) with
       | none=>rfl
       | some ws=>simp [aw6]
      ·dsimp only
       rw [hcond,obS,if_pos rfl,hg,obS,oA,obS,hk1,hrun,obS,obS,h4',h0']
       simp only [if_true,Bool.false_eq_true,if_false]
       rw [hsub,obS,hw,obS,tA,hv,obS,obS]
       simp only [Bool.not_true,Bool.false_eq_true,if_false]
       rw [obS,hw,obS,jH (by simp;omega),obS]
       rfl
theorem qJ (s:Str):mo s=some (zC s):=by
 unfold mo zC rX
 by_cases hs:s.b.length≤3000
 ·have := ap8 hs s.b.length s.b 0 [] (Nat.le_refl _) rfl (Nat.zero_le _) (by simp)
  rw [show ((0:Nat):Int)=0 from rfl] at this
  rw [qi (qi this),if_pos hs]
  have h1:decide ((3000:Int)<(s.b.length:Int))=false:=by rw [decide_eq_false_iff_not];omega
  cases tok s.b with
  | none=>rfl
  | some ws =>
   show (if decide ((3000:Int)<(s.b.length:Int)) then some true else some (decide (600<(([]++ws:List eu).length:Int)))).bind _=_
   rw [h1]
   simp only [List.nil_append,Option.filter,Bool.false_eq_true,if_false,obS]
   by_cases h:ws.length≤600
   ·have : ¬ (600 : Int) < (ws.length : Int) := by omega
    simp [h,this]
   ·have : (600 : Int) < (ws.length : Int) := by omega
    simp [h,this]
 ·rw [if_neg hs]
  have h1:decide ((3000:Int)<(s.b.length:Int))=true:=by rw [decide_eq_true_iff];omega
  have h2:decide ((s.b.length:Int)≤3000)=false:=by rw [decide_eq_false_iff_not];omega
  rw [qi (qi (gH (x:=.inr []) (by
   dsimp only
   rw [h2]
   cases decide ((0:Int)<(s.b.length:Int))<;>rfl)))]
  show (if decide ((3000:Int)<(s.b.length:Int)) then some true else some (decide (600<(([]:List eu).length:Int)))).bind _=_
  rw [h1]
  rfl
end Prg
end Go.Wk
namespace Go.Wk
open Go
namespace Prg
set_option maxRecDepth 10000
theorem si {P:ey→Prop} (h:∀ e:ey,(∀ k∈e.kids,P k)→P e):∀ e,P e:=by
 have:∀ (n:Nat) (e:ey),SizeOf.sizeOf e≤n→P e:=by
  intro n
  induction n with
  | zero=>intro e he;cases e;simp at he
  | succ n ih =>
   intro e he
   refine h e λk hk=>ih k ?_
   have:=List.sizeOf_lt_of_mem hk
   cases e
   simp at he this ⊢
   omega
 exact λe=>this _ e (Nat.le_refl _)
mutual
def iW:ey→Nat
 | ⟨_,_,_,ks⟩=>1+jC ks
def jC:List ey→Nat
 | []=>0
 | k::ks=>iW k+jC ks
end
theorem kv (e:ey):iW e=1+jC e.kids:=by cases e;rw [iW]
theorem il (k:ey) (ks:List ey):jC (k::ks)=iW k+jC ks:=by rw [jC]
theorem jj:jC []=0:=by rw [jC]
theorem mF:∀ (l r:List ey),jC (l++r)=jC l+jC r
 | [],r=>by rw [jj,List.nil_append,Nat.zero_add]
 | k::l,r=>by rw [List.cons_append,il,il,mF l r];omega
theorem o4 {k:ey}:∀ {l:List ey},k∈l→iW k≤jC l
 | a::l,h=>by
  rw [il]
  rcases List.mem_cons.1 h with rfl | h
  ·omega
  ·have:=o4 h;omega
def lvI (op:Int):Int:=if op=10 then 1 else if op=8∨op=9 then 2 else if op=3∨op=4 then 3 else if op=5∨op=6∨op=7 then 4 else if op=11∨op=12 then 5 else 6
def mq (op:Int):Int × Int:=if op=1∨op=2 then (0,0) else if op=11∨op=12 then (1,1) else if op=13 then (0,3) else (2,2)
def oP (e:ey):Bool:=inB e.op 1 13&&(inB (e.kids.length:Int) (mq e.op).1 (mq e.op).2&&((if e.op=2∨e.op=13 then ic e.name else decide (e.name=mkS []))&&(inB e.n_ 0 255&&decide (e.op=1∨e.n_=0))))
def iC:Nat→ey→Bool
 | 0,_=>false
 | d+1,e=>oP e&&e.kids.all (iC d)
def j6 (e:ey):Bool:=iC 6 e&&decide (iW e≤30)
theorem ye {op:Int} (h:inB op 1 13=true):op=1∨op=2∨op=3∨op=4∨op=5∨op=6∨op=7∨op=8∨op=9∨op=10∨op=11∨op=12∨op=13:=by
 rw [kQ] at h;omega
theorem zG (op:Int):mW op=some (lvI op):=by
 unfold mW lvI
 by_cases h1:op=10
 ·simp [h1]
 by_cases h2:op=8
 ·simp [h2]
 by_cases h3:op=9
 ·simp [h3]
 by_cases h4:op=3
 ·simp [h4]
 by_cases h5:op=4
 ·simp [h5]
 by_cases h6:op=5
 ·simp [h6]
 by_cases h7:op=6
 ·simp [h7]
 by_cases h8:op=7
 ·simp [h8]
 by_cases h9:op=11
 ·simp [h9]
 by_cases h10:op=12
 ·simp [h10]
 simp [h1,h2,h3,h4,h5,h6,h7,h8,h9,h10]
theorem ax4 (op:Int):nu op=some (mq op):=by
 unfold nu mq
 by_cases h1:op=1
 ·simp [h1]
 by_cases h2:op=2
 ·simp [h2]
 by_cases h3:op=11
 ·simp [h3]
 by_cases h4:op=12
 ·simp [h4]
 by_cases h5:op=13
 ·simp [h5]
 simp [h1,h2,h3,h4,h5]
def sgO (op:Int):fO:=(jm.get fA op).getD ⟨mkS [],0⟩
theorem at7 {op:Int} (h:¬ (3≤op∧op≤10)):sgO op=⟨mkS [],0⟩:=by
 unfold sgO
 cases hg:jm.get fA op with
 | none=>rfl
 | some v =>
  exfalso
  have hm:=(o6 fA.nodup).1 hg
  unfold fA at hm
  simp only [List.mem_cons,Prod.mk.injEq,List.not_mem_nil,or_false] at hm
  omega
theorem zK (op:Int):(sgO op).level=if 3≤op∧op≤10 then lvI op else 0:=by
 by_cases h:3≤op∧op≤10
 ·rw [if_pos h]
  have:op=3∨op=4∨op=5∨op=6∨op=7∨op=8∨op=9∨op=10:=by omega
  rcases this with rfl | rfl | rfl | rfl | rfl | rfl | rfl | rfl<;>rfl
 ·rw [if_neg h,at7 h]
theorem rb (op:Int):ka op=some (lvI op):=by
  unfold ka
  show (if decide (0<(sgO op).level) then some (sgO op).level else _)=_
  rw [zK]
  by_cases h:3≤op∧op≤10
  · rw [if_pos h]
    have : 0 < lvI op := by unfold lvI; repeat' split
                            all_goals omega
    simp [this]
  · rw [if_neg h]
    unfold lvI
    by_cases h1:op=11
    · simp [h1]
    by_cases h2:op=12
    · simp [h2]
    have:¬ op=10∧¬ (op=8∨op=9)∧¬ (op=3∨op=4)∧¬ (op=5∨op=6∨op=7):=by omega
    simp [h1,h2,this]
end Prg
end Go.Wk
namespace Go.Wk
open Go
namespace Prg
set_option maxRecDepth 10000
theorem au8 (n:Int):nr n=some (inB n 0 255):=by
 unfold nr;rw [rF];rfl
theorem bh8 (op:Int):((jm.get fA op).getD (⟨mkS [],0⟩:fO)).level=if 3≤op∧op≤10 then lvI op else 0:=zK op
theorem ah4 (e : ey) (most : Int) : j9 e most = if oP e && decide (1 ≤ most) then
  (forN (λ(uD:Int) (uC:Int × Int)=>((fW e.kids uD).bind λuE=>(j9 uE (w64 (most - 1))).bind λuA=>if !(uA.2.2) then some (.inr (0,0,false)) else some (.inl (w64 (uC.1+uA.1),(qV uC.2 (w64 (uA.2.1+1))))):Option ((Int × Int) ⊕ (Int × Int × Bool)))) (((e.kids.length:Int):Int) - 0).toNat 0 (1,1)).bind (Sum.elim (λuB=>some (uB.1,uB.2,decide (uB.1≤30))) (λe0=>some e0)) else some (0,0,false):=by
 rw [j9]
 generalize (forN (λ(uD:Int) (uC:Int × Int)=>((fW e.kids uD).bind λuE=>(j9 uE (w64 (most - 1))).bind λuA=>if !(uA.2.2) then some (.inr (0,0,false)) else some (.inl (w64 (uC.1+uA.1),(qV uC.2 (w64 (uA.2.1+1))))):Option ((Int × Int) ⊕ (Int × Int × Bool)))) (((e.kids.length:Int):Int) - 0).toNat 0 (1,1)).bind (Sum.elim (λuB=>some (uB.1,uB.2,decide (uB.1≤30))) (λe0=>some e0))=L
 simp only [au8,sT,rF,rb,bh8,obS]
 have em:decide (most<1)=!decide (1≤most):=by
  by_cases h:1≤most
  ·have : ¬ most < 1 := by omega
   simp [h,this]
  ·have : most < 1 := by omega
   simp [h,this]
 rw [em]
 generalize decide (1≤most)=b
 obtain ⟨op,n,nm,ks⟩:=e
 unfold oP
 dsimp only
 have hn:n=0→inB n 0 255=true:=λh=>by rw [h];rfl
 cases hop:inB op 1 13 with
 | true =>
  cases hc:inB (ks.length:Int) (mq op).1 (mq op).2
  all_goals rcases ye hop with rfl | rfl | rfl | rfl | rfl | rfl | rfl | rfl | rfl | rfl | rfl | rfl | rfl
  all_goals
   simp only [lvI,mq] at hc ⊢
   simp at hc ⊢
   cases ic nm<;>cases h3:inB n 0 255<;>cases b<;>by_cases h1:nm=mkS []<;>by_cases h2:n=0<;>first | (simp [h1,h2,hc];done) | (exfalso;rw [hn h2] at h3;cases h3)
 | false =>
  have:¬ (1≤op∧op≤13):=λh=>by rw [kQ.2 h] at hop;cases hop
  have a1:op≠1:=by omega
  have a2:op≠2:=by omega
  have a3:op≠13:=by omega
  have a4:op≠11:=by omega
  have a5:op≠12:=by omega
  have a6:¬ (3≤op∧op≤10):=by omega
  simp [a1,a2,a3,a4,a5,a6]
def pbd:Nat→Nat
 | 0=>0
 | d+1=>1+3*pbd d
theorem nE {d:Nat} {e:ey} (h:iC (d+1) e=true):oP e=true∧∀ k∈e.kids,iC d k=true:=by
 rw [iC,Bool.and_eq_true,List.all_eq_true] at h;exact h
theorem tG {e:ey} (h:oP e=true):e.kids.length≤3:=by
  unfold oP at h
  simp only [Bool.and_eq_true] at h
  have h2:=kQ.1 h.2.1
  have : (mq e.op).2 ≤ 3 := by unfold mq; repeat' split
                               all_goals simp
  omega
theorem xL {n:Nat}:∀ {l:List ey},(∀ k∈l,iW k≤n)→jC l≤l.length*n
 | [],_=>by rw [jj];omega
 | k::l,h=>by
  have h1:=h k (by simp)
  have h2:=xL (l:=l) λx hx=>h x (by simp [hx])
  rw [il,List.length_cons,Nat.succ_mul];omega
theorem wt:∀ {d:Nat} {e:ey},iC d e=true→iW e≤pbd d
 | 0,e,h=>by rw [iC] at h;cases h
 | d+1,e,h=>by
  obtain ⟨h1,h2⟩:=nE h
  have h3:=xL (n:=pbd d) (l:=e.kids) λk hk=>wt (h2 k hk)
  have h4:e.kids.length*pbd d≤3*pbd d:=Nat.mul_le_mul_right _ (tG h1)
  rw [kv,pbd];omega
theorem aw9:∀ (e:ey) (d:Int),d≤1000→-1000≤d→ke e d=some (iC d.toNat e):=by
 intro e
 induction e using si with
 | h e ih =>
  intro d hd hd2
  rw [ke,ax4,obS]
  simp only [vc,qo,obS]
  by_cases h1:d<1
  ·have : d.toNat = 0 := by omega
   rw [this,iC]
   simp [h1]
  obtain ⟨m,hdm⟩:∃ m:Nat,d=(m:Int)+1:=⟨d.toNat - 1,by omega⟩
  have hm:d.toNat=m+1:=by omega
  rw [hm,iC]
  have hk:∀ k∈e.kids,ke k (w64 (d - 1))=some (iC m k):=by
   intro k hk
   rw [hO (by omega) (by omega),ih k hk _ (by omega) (by omega)]
   congr 2;omega
  have hl:forN (λ(uA:Int) (uD:Unit)=>((fW e.kids uA).bind λuB=>(ke uB (w64 (d - 1))).bind λuC=>if !(uC) then some (.inr false) else some (.inl ()):Option ((Unit) ⊕ (Bool)))) (((e.kids.length:Int):Int) - 0).toNat 0 ()=if e.kids.all (iC m) then some (.inl ()) else some (.inr false):=by
   rw [la (xs:=e.kids) (body:=(λ(uA:Int) (uD:Unit)=>((fW e.kids uA).bind λuB=>(ke uB (w64 (d - 1))).bind λuC=>if !(uC) then some (.inr false) else some (.inl ()):Option ((Unit) ⊕ (Bool))))) (λk=>!iC m k) false (λl x r he=>by
    rw [he,iO,obS,hk x (by rw [he];simp),obS])]
   have:e.kids.any (λk=>!iC m k)=!e.kids.all (iC m):=by rw [List.not_all_eq_any_not]
   rw [this]
   cases e.kids.all (iC m)<;>rfl
  rw [hl]
  have e1:decide (d<1)=false:=by simp;omega
  rw [e1]
  unfold oP
  cases inB e.op 1 13 with
  | false=>rfl
  | true =>
  cases inB (e.kids.length:Int) (mq e.op).1 (mq e.op).2 with
  | false=>rfl
  | true =>
  have e2:(if decide (e.op=2) then some true else some (decide (e.op=13)):Option Bool)=some (decide (e.op=2∨e.op=13)):=by by_cases h:e.op=2<;>simp [h]
  simp only [Bool.false_eq_true,if_false,Bool.not_true,e2,obS,Bool.true_and]
  have hn:ic (mkS [])=false:=rfl
  have h0:e.n_=0→inB e.n_ 0 255=true:=λh=>by rw [h];rfl
  by_cases h:e.op=2∨e.op=13
  ·have h5 : ¬ e.op = 1 := by omega
   cases ic e.name<;>cases h3:inB e.n_ 0 255<;>cases e.kids.all (iC m)<;>by_cases h6:e.n_=0<;>first | (simp [h,h5,h6];done) | (exfalso;rw [h0 h6] at h3;cases h3)
  ·by_cases h7:e.name=mkS []
   ·rw [h7,hn]
    cases h3:inB e.n_ 0 255<;>cases e.kids.all (iC m)<;>by_cases h6:e.n_=0<;>by_cases h5:e.op=1<;>first | (simp [h,h5,h6];done) | (exfalso;rw [h0 h6] at h3;cases h3)
   ·cases ic e.name<;>cases h3:inB e.n_ 0 255<;>cases e.kids.all (iC m)<;>by_cases h6:e.n_=0<;>by_cases h5:e.op=1<;>first | (simp [h,h5,h6,h7];done) | (exfalso;rw [h0 h6] at h3;cases h3)
theorem al8:∀ (e:ey),iW e≤1000000→lG e=some (iW e:Int):=by
 intro e
 induction e using si with
 | h e ih =>
  intro he
  rw [lG]
  rw [kv] at he ⊢
  rcases jI (xs := e.kids) (body := (fun (uA : Int) (uB : Int) => ((fW e.kids uA).bind fun uC => (lG uC).bind fun uD => some (.inl (w64 (uB + uD))) : Option ((Int) ⊕ (Empty))))) (s := 1) (fun l s => s = ((1 + jC l : Nat) : Int)) (fun _ => False) (by rw [jj]; rfl) (fun l x r s hx hI => .inl (by
   have hp:=o4 (k:=x) (l:=e.kids) (by rw [hx];simp)
   have hp2:jC e.kids=jC l+(iW x+jC r):=by rw [hx,mF,il]
   refine ⟨_,?_,rfl⟩
   subst hI
   have hw:w64 (((1+jC l:Nat):Int)+(iW x:Int))=((1+jC (l++[x]):Nat):Int):=by
    rw [hO (by omega) (by omega),mF,il,jj];omega
   rw [show fW e.kids (l.length:Int)=some x by rw [hx,iO],obS,ih x (by rw [hx];simp) (by omega),obS,hw])) with ⟨s,h1,h2⟩ | ⟨y,h1,h2⟩
  ·rw [h1,h2];rfl
  ·exact h2.elim
theorem ao7 (e:ey):lR e=some (j6 e):=by
 unfold lR j6
 rw [aw9 e 6 (by omega) (by omega),obS]
 rw [show (6:Int).toNat=6 from rfl]
 cases h:iC 6 e with
 | false=>rfl
 | true =>
  have:=wt h
  rw [al8 e (Nat.le_trans this (by decide))]
  have:decide ((iW e:Int)≤30)=decide (iW e≤30):=by rw [decide_eq_decide];omega
  simp [this]
theorem aw5:∀ (e:ey) (d:Nat),d≤6→∃ p h ok,j9 e (d:Int)=some (p,h,ok)∧ok=(iC d e&&decide (iW e≤30))∧(ok=true→p=(iW e:Int)∧0≤h∧h≤(d:Int)):=by
 intro e
 induction e using si with
 | h e ih =>
  intro d hd
  rw [ah4]
  cases d with
  | zero=>exact ⟨0,0,false,by simp,by rw [iC];rfl,λh=>by cases h⟩
  | succ d =>
  generalize hD:((d+1:Nat):Int)=D
  have e1:decide ((1:Int)≤D)=true:=by simp;omega
  rw [e1,Bool.and_true,iC]
  cases hh:oP e with
  | false=>exact ⟨0,0,false,rfl,rfl,λh=>by cases h⟩
  | true =>
  rw [if_pos rfl]
  have hk3:=tG hh
  rcases jI (xs:=e.kids) (body:=(λ(uC:Int) (uB:Int × Int)=>((fW e.kids uC).bind λuD=>(j9 uD (w64 (D - 1))).bind λuA=>if !(uA.2.2) then some (.inr (0,0,false)) else some (.inl (w64 (uB.1+uA.1),(qV uB.2 (w64 (uA.2.1+1))))):Option ((Int × Int) ⊕ (Int × Int × Bool))))) (s:=(1,1)) (λl s=>s.1=((1+jC l:Nat):Int)∧0≤s.2∧s.2≤D∧l.all (iC d)=true∧jC l≤l.length*30) (λy=>y=(0,0,false)∧(e.kids.all (iC d)&&decide (1+jC e.kids≤30))=false) ⟨by rw [jj];rfl,by simp,by simp only [];omega,rfl,by rw [jj];simp⟩ (λl x r s hx hI=>by
   have hp2:jC e.kids=jC l+(iW x+jC r):=by rw [hx,mF,il]
   obtain ⟨p,h,ok,g1,g2,g3⟩:=ih x (by rw [hx];simp) d (by omega)
   have hll:l.length≤3:=by
    have:=congrArg List.length hx
    simp at this
    omega
   have g0:w64 (D - 1)=(d:Int):=by rw [hO (by omega) (by omega)];omega
   have gg:fW e.kids (l.length:Int)=some x:=by rw [hx,iO]
   cases hok:ok with
   | false =>
    refine .inr ⟨_,?_,rfl,?_⟩
    ·rw [gg,obS,g0,g1,hok];rfl
    ·rw [hok] at g2
     rw [hx,List.all_append,List.all_cons]
     cases h1:iC d x with
     | false=>simp
     | true =>
      rw [h1] at g2
      simp at g2
      have:¬ 1+jC e.kids≤30:=by omega
      rw [hx] at this
      simp [this]
   | true =>
    obtain ⟨g4,g5,g6⟩:=g3 hok
    rw [hok] at g2
    have g7:=g2.symm
    rw [Bool.and_eq_true,decide_eq_true_iff] at g7
    obtain ⟨i1,i2,i3,i4,i5⟩:=hI
    have hle:jC l≤3*30:=Nat.le_trans i5 (Nat.mul_le_mul_right _ hll)
    refine .inl ⟨(w64 (s.1+p),qV s.2 (w64 (h+1))),?_,?_,?_,?_,?_,?_⟩
    ·rw [gg,obS,g0,g1,hok];rfl
    ·rw [i1,g4,hO (by omega) (by omega),mF,il,jj];omega
    ·show 0 ≤ qV s.2 (w64 (h + 1))
     rw [hO (by omega) (by omega)];unfold qV;split<;>omega
    ·show qV s.2 (w64 (h + 1)) ≤ _
     rw [hO (by omega) (by omega)];unfold qV;split<;>omega
    ·rw [List.all_append,i4,List.all_cons,g7.1];rfl
    ·rw [mF,il,jj,List.length_append,List.length_cons,List.length_nil,Nat.add_mul];omega) with ⟨s,h1,h2⟩ | ⟨y,h1,h2,h3⟩
  ·obtain ⟨i1,i2,i3,i4,i5⟩:=h2
   refine ⟨s.1,s.2,decide (s.1≤30),by rw [h1];rfl,?_,λ_=>⟨by rw [i1,kv],i2,i3⟩⟩
   rw [i4,Bool.true_and,Bool.true_and,i1,kv,decide_eq_decide];omega
  ·refine ⟨0, 0, false, by rw [h1, h2]; rfl, ?_, fun h => by cases h⟩
   rw [Bool.true_and,kv,h3]
theorem av3 (e:ey):lM e=some (j6 e):=by
 unfold lM j6
 obtain ⟨p,h,ok,h1,h2,h3⟩:=aw5 e 6 (by omega)
 rw [show (6:Int)=((6:Nat):Int) from rfl,h1,obS,h2]
end Prg
end Go.Wk
namespace Go.Wk
open Go
namespace Prg
set_option maxRecDepth 10000
def isT (ws:List eu) (t:Str):Bool:=match ws with
 | []=>false
 | w::_=>decide (w.text=t)
def pkW (ws:List eu):eu:=match ws with
 | []=>⟨0,mkS []⟩
 | w::_=>w
theorem sf (ws:List eu) (b:Bool):gD ⟨ws,b⟩=some (pkW ws):=by
 unfold gD
 cases ws with
 | nil=>rfl
 | cons w ws =>
  have:decide (((w::ws).length:Int)=0)=false:=by simp;omega
  rw [this];rfl
theorem qp (b:Bool):fb ⟨[],b⟩=some (⟨0,mkS []⟩,⟨[],true⟩):=by
 unfold fb
 rw [sf];rfl
theorem yd (w:eu) (ws:List eu):uq (w::ws) 1 ((w::ws).length:Int)=some ws:=by
 unfold uq
 rw [if_pos ⟨by omega,by simp;omega,by omega⟩]
 simp
theorem oZ (w:eu) (ws:List eu) (b:Bool):fb ⟨w::ws,b⟩=some (w,⟨ws,b⟩):=by
 unfold fb
 have:decide (((w::ws).length:Int)=0)=false:=by simp;omega
 rw [sf,obS]
 dsimp only
 rw [this,yd];rfl
def tkW (ws:List eu) (k:Int) (t:Str):Bool:=match ws with
 | []=>false
 | w::_=>decide (w.kind=k)&&decide (w.text=t)
theorem lY (ws:List eu) (b:Bool) (k:Int) (t:Str):fJ ⟨ws,b⟩ k t=some (tkW ws k t,⟨if tkW ws k t then ws.tail else ws,b⟩):=by
 unfold fJ
 rw [sf,obS]
 cases ws with
 | nil=>rfl
 | cons w ws =>
  have:decide (((w::ws).length:Int)=0)=false:=by simp;omega
  show (if decide (((w::ws).length:Int)=0) then _ else if decide (w.kind≠k) then some true else some (decide (w.text≠t))).bind (λs=>if s then _ else (uq (w::ws) 1 ((w::ws).length:Int)).bind _)=_
  rw [this,yd]
  unfold tkW
  by_cases h1:w.kind=k<;>by_cases h2:w.text=t<;>simp [h1,h2]
theorem pz (ws:List eu) (b:Bool) (k:Int) (t:Str):fC ⟨ws,b⟩ k t=some ⟨if tkW ws k t then ws.tail else ws,if tkW ws k t then b else true⟩:=by
 unfold fC
 rw [lY,obS]
 cases tkW ws k t<;>rfl
theorem p6 {w:eu} {c:UInt8} (hw:k7 w=true) (hb:w.text.b=[c]) (hc:c∈nP):w.kind=3:=by
 have hcl:kH c=false∧jn c=false:=by
  have key:∀ c∈nP,kH c=false∧jn c=false:=by decide
  exact key c hc
 unfold k7 at hw
 by_cases h1:w.kind=1
 ·rw [if_pos h1] at hw
  unfold ic at hw
  rw [hb] at hw
  simp [hcl.1] at hw
 rw [if_neg h1] at hw
 by_cases h2:w.kind=2
 ·rw [if_pos h2] at hw
  unfold mR at hw
  rw [hb] at hw
  simp [hcl.2] at hw
 rw [if_neg h2] at hw
 by_cases h3:w.kind=3
 ·exact h3
 rw [if_neg h3] at hw
 by_cases h4:w.kind=4
 ·rw [if_pos h4] at hw
  have:=sF hb hw
  rw [hcl.1] at this;cases this
 ·rw [if_neg h4] at hw;cases hw
theorem qM {ws:List eu} (hw:∀ w∈ws,k7 w=true) {t:Str} {c:UInt8} (ht:t.b=[c]) (hc:c∈nP):tkW ws 3 t=isT ws t:=by
 cases ws with
 | nil=>rfl
 | cons w ws =>
  unfold tkW isT
  by_cases h:w.text=t
  ·have := p6 (hw w (by simp)) (by rw [h]; exact ht) hc
   simp [h,this]
  ·simp [h]
theorem ao9 (list:List eu) (n:Nat) (t:Str):iG list (n:Int) t=some (isT (list.drop n) t):=by
 unfold iG isT
 by_cases h:n<list.length
 ·have h1 : decide ((n : Int) < (list.length : Int)) = true := by simp; omega
  rw [h1,if_pos rfl,om,List.getElem?_eq_getElem h,List.drop_eq_getElem_cons h];rfl
 ·have h1 : decide ((n : Int) < (list.length : Int)) = false := by simp; omega
  rw [h1,List.drop_eq_nil_of_le (by omega)];rfl
def opW (lv:Int) (w:eu):Int :=
 if lv=1 then (if w.text=mkS [38] then 10 else 0)
 else if lv=2 then (if w.text=mkS [60] then 8 else if w.text=mkS [61] then 9 else 0)
 else if lv=3 then (if w.text=mkS [43] then 3 else if w.text=mkS [45] then 4 else 0)
 else (if w.text=mkS [42] then 5 else if w.text=mkS [47] then 6 else if w.text=mkS [37] then 7 else 0)
def opT (lv:Int) (ws:List eu):Int:=match ws with
 | []=>0
 | w::_=>opW lv w
theorem bd0:iw 3=some (mkS [43]):=rfl
theorem bh5:iw 4=some (mkS [45]):=rfl
theorem bg7:iw 5=some (mkS [42]):=rfl
theorem bg6:iw 6=some (mkS [47]):=rfl
theorem bf1:iw 7=some (mkS [37]):=rfl
theorem bg2:iw 8=some (mkS [60]):=rfl
theorem be1:iw 9=some (mkS [61]):=rfl
theorem at9:iw 10=some (mkS [38]):=rfl
theorem aa5:iw 11=some (mkS [33]):=rfl
theorem ab1:iw 12=some (mkS [64]):=rfl
theorem bj1 (list:List eu) (n:Nat) (lv:Int) (hl:lv=1∨lv=2∨lv=3∨lv=4):iy list (n:Int) lv=some (opT lv (list.drop n)):=by
 unfold iy
 have e:(((10)+1:Int) - 3).toNat=8:=rfl
 rw [e]
 rcases hl with rfl | rfl | rfl | rfl
 all_goals
  simp only [forN,zG,lvI,obS,ao9]
  simp [bd0,bh5,bg7,bg6,bf1,bg2,be1,at9,ao9]
  unfold opT isT
  cases list.drop n with
  | nil=>rfl
  | cons w r =>
   unfold opW
   dsimp only
   repeat' split
   all_goals simp_all
theorem tw {α S : Type} (q : α → Bool) (f : α → S) (K : S) {body : α → S → Option S} (hb : ∀ p s, body p s = some (if q p then f p else s)) : ∀ (fs : List α) (s : S), (∀ p ∈ fs, q p = true → f p = K) → lU body fs s = some (if fs.any q then K else s)
 | [],s,_=>rfl
 | p::fs,s,h=>by
  rw [lU,hb,obS,tw q f K hb fs _ λp hp=>h p (by simp [hp])]
  rw [List.any_cons]
  cases hq:q p with
  | true =>
   rw [h p (by simp) hq]
   cases fs.any q<;>rfl
  | false=>rfl
theorem aq5 {α:Type} {q:α→Bool} {fs es:List α} (hp:fs.Perm es):fs.any q=es.any q:=by
 cases h:es.any q with
 | true =>
  obtain ⟨x,h1,h2⟩:=List.any_eq_true.1 h
  exact List.any_eq_true.2 ⟨x,hp.mem_iff.2 h1,h2⟩
 | false =>
  rw [List.any_eq_false] at h ⊢
  exact λx hx=>h x (hp.mem_iff.1 hx)
theorem zI {α S:Type} (q:α→Bool) (f:α→S) (K:S) {body:α→S→Option S} (hb:∀ p s,body p s=some (if q p then f p else s)) {es:List α} {s:S} (h:∀ p∈es,q p=true→f p=K):mZ body es s=some (if es.any q then K else s) :=
 ah6 λfs hp=>by
  rw [tw q f K hb fs s λp hx=>h p (hp.mem_iff.1 hx),aq5 hp]
def qE (lv:Int) (ws:List eu) (p:Int × fO):Bool:=decide (p.2.level=lv)&&(decide ((pkW ws).kind=3)&&decide ((pkW ws).text=p.2.sign))
theorem al6 (ws : List eu) (hw : ∀ w ∈ ws, k7 w = true) (lv : Int) (hl : lv = 1 ∨ lv = 2 ∨ lv = 3 ∨ lv = 4) {body : Int × fO → Int → Option Int} (hb : ∀ p s, body p s = some (if qE lv ws p then p.1 else s)) :
  mZ body (fA:jm fO).es 0=some (opT lv ws):=by
 have hes:∀ p∈fA.es,p=(3,⟨mkS [43],3⟩)∨p=(4,⟨mkS [45],3⟩)∨p=(5,⟨mkS [42],4⟩)∨p=(6,⟨mkS [47],4⟩)∨p=(7,⟨mkS [37],4⟩)∨p=(8,⟨mkS [60],2⟩)∨p=(9,⟨mkS [61],2⟩)∨p=(10,⟨mkS [38],1⟩):=by
  intro p hp
  unfold fA at hp
  simpa only [List.mem_cons,List.not_mem_nil,or_false] using hp
 have hq:∀ p∈fA.es,qE lv ws p=true→p.1=opT lv ws:=by
  intro p hp hq
  cases ws with
  | nil=>simp [qE,pkW] at hq
  | cons w r =>
   unfold qE at hq
   simp only [Bool.and_eq_true,decide_eq_true_iff,pkW] at hq
   obtain ⟨h1,_,h2⟩:=hq
   replace h2:=of_decide_eq_true h2
   show p.1=opW lv w
   unfold opW
   rw [h2,← h1]
   rcases hes p hp with rfl | rfl | rfl | rfl | rfl | rfl | rfl | rfl<;>rfl
 rw [zI (qE lv ws) (λp=>p.1) (opT lv ws) hb hq]
 cases h:fA.es.any (qE lv ws) with
 | true=>rfl
 | false =>
  cases ws with
  | nil=>rfl
  | cons w r =>
   have key:∀ p∈fA.es,p.2.level=lv→w.text=p.2.sign→False:=by
    intro p hp h1 h2
    have hn:=List.any_eq_false.1 h p hp
    apply hn
    obtain ⟨c,h3,h4⟩:∃ c,p.2.sign.b=[c]∧c∈nP:=by
     rcases hes p hp with rfl | rfl | rfl | rfl | rfl | rfl | rfl | rfl<;>exact ⟨_,rfl,by decide⟩
    have h5:=p6 (hw w (by simp)) (by rw [h2];exact h3) h4
    unfold qE
    simp [pkW,h1,h2,h5]
   have n3:lv=3→w.text≠mkS [43]:=λh h2=>key (3,⟨mkS [43],3⟩) (by simp [fA]) h.symm h2
   have n4:lv=3→w.text≠mkS [45]:=λh h2=>key (4,⟨mkS [45],3⟩) (by simp [fA]) h.symm h2
   have n5:lv=4→w.text≠mkS [42]:=λh h2=>key (5,⟨mkS [42],4⟩) (by simp [fA]) h.symm h2
   have n6:lv=4→w.text≠mkS [47]:=λh h2=>key (6,⟨mkS [47],4⟩) (by simp [fA]) h.symm h2
   have n7:lv=4→w.text≠mkS [37]:=λh h2=>key (7,⟨mkS [37],4⟩) (by simp [fA]) h.symm h2
   have n8:lv=2→w.text≠mkS [60]:=λh h2=>key (8,⟨mkS [60],2⟩) (by simp [fA]) h.symm h2
   have n9:lv=2→w.text≠mkS [61]:=λh h2=>key (9,⟨mkS [61],2⟩) (by simp [fA]) h.symm h2
   have n10:lv=1→w.text≠mkS [38]:=λh h2=>key (10,⟨mkS [38],1⟩) (by simp [fA]) h.symm h2
   show some 0=some (opW lv w)
   unfold opW
   rcases hl with rfl | rfl | rfl | rfl
   ·simp [n10 rfl]
   ·simp [n8 rfl,n9 rfl]
   ·simp [n3 rfl,n4 rfl]
   ·simp [n5 rfl,n6 rfl,n7 rfl]
end Prg
end Go.Wk
namespace Go.Wk
open Go
namespace Prg
set_option maxRecDepth 10000
inductive Job where
 | E (lv:Int) (ws:List eu) (e:ey) (r:List eu)
 | L (lv:Int) (x:ey) (ws:List eu) (e:ey) (r:List eu)
 | A (ws:List eu) (ks:List ey) (r:List eu)
 | M (acc:List ey) (ws:List eu) (ks:List ey) (r:List eu)
inductive Rd:Job→Prop
 | neg {w ws e r}:w.text=mkS [33]→Rd (.E 5 ws e r)→Rd (.E 5 (w::ws) ⟨11,0,mkS [],[e]⟩ r)
 | at_ {w ws e r}:w.text=mkS [64]→Rd (.E 5 ws e r)→Rd (.E 5 (w::ws) ⟨12,0,mkS [],[e]⟩ r)
 | par {w ws e v r}:w.text=mkS [40]→Rd (.E 1 ws e (v::r))→v.text=mkS [41]→Rd (.E 5 (w::ws) e r)
 | num {w r}:w.kind=2→Rd (.E 5 (w::r) ⟨1,zQ w,mkS [],[]⟩ r)
 | var {w r}:w.kind=1→isT r (mkS [40])=false→Rd (.E 5 (w::r) ⟨2,0,w.text,[]⟩ r)
 | call {w v ws ks r}:w.kind=1→v.text=mkS [40]→Rd (.A ws ks r)→Rd (.E 5 (w::v::ws) ⟨13,0,w.text,ks⟩ r)
 | up {lv ws e ws' e' r}:(lv=1∨lv=2∨lv=3∨lv=4)→Rd (.E (lv+1) ws e ws')→Rd (.L lv e ws' e' r)→Rd (.E lv ws e' r)
 | stop {lv e ws}:opT lv ws=0→Rd (.L lv e ws e ws)
 | step {lv e w ws f ws' e' r}:opW lv w≠0→Rd (.E (lv+1) ws f ws')→Rd (.L lv ⟨opW lv w,0,mkS [],[e,f]⟩ ws' e' r)→Rd (.L lv e (w::ws) e' r)
 | done {v r}:v.text=mkS [41]→Rd (.A (v::r) [] r)
 | first {ws e ws' ks r}:isT ws (mkS [41])=false→Rd (.E 1 ws e ws')→Rd (.M [e] ws' ks r)→Rd (.A ws ks r)
 | last {acc v r}:v.text=mkS [41]→Rd (.M acc (v::r) acc r)
 | more {acc v ws e ws' ks r}:v.text=mkS [44]→Rd (.E 1 ws e ws')→Rd (.M (acc++[e]) ws' ks r)→Rd (.M acc (v::ws) ks r)
def bi4:Job→Prop
 | .E _ ws _ r=>r.length<ws.length∧∀ x∈r,x∈ws
 | .L _ _ ws _ r=>r.length≤ws.length∧∀ x∈r,x∈ws
 | .A ws _ r=>r.length<ws.length∧∀ x∈r,x∈ws
 | .M _ ws _ r=>r.length<ws.length∧∀ x∈r,x∈ws
theorem ma {j:Job} (h:Rd j):bi4 j:=by
 induction h<;>simp only [bi4,List.length_cons,List.mem_cons] at *
 case neg ih=>exact ⟨by omega,λx hx=>.inr (ih.2 x hx)⟩
 case at_ ih=>exact ⟨by omega,λx hx=>.inr (ih.2 x hx)⟩
 case par ih=>exact ⟨by omega,λx hx=>.inr (ih.2 x (.inr hx))⟩
 case num=>exact ⟨by omega,λx hx=>.inr hx⟩
 case var=>exact ⟨by omega,λx hx=>.inr hx⟩
 case call ih=>exact ⟨by omega,λx hx=>.inr (.inr (ih.2 x hx))⟩
 case up ih1 ih2=>exact ⟨by omega,λx hx=>ih1.2 x (ih2.2 x hx)⟩
 case stop=>exact ⟨by omega,λx hx=>hx⟩
 case step ih1 ih2=>exact ⟨by omega,λx hx=>.inr (ih1.2 x (ih2.2 x hx))⟩
 case done=>exact ⟨by omega,λx hx=>.inr hx⟩
 case first ih1 ih2=>exact ⟨by omega,λx hx=>ih1.2 x (ih2.2 x hx)⟩
 case last=>exact ⟨by omega,λx hx=>.inr hx⟩
 case more ih1 ih2=>exact ⟨by omega,λx hx=>.inr (ih1.2 x (ih2.2 x hx))⟩
def AtW (list:List eu) (n:Nat) (ws:List eu):Prop:=list.drop n=ws∧n≤list.length
theorem jK {list:List eu} {n:Nat} {w:eu} {ws:List eu} (h:AtW list n (w::ws)):n<list.length∧fW list (n:Int)=some w∧AtW list (n+1) ws:=by
 obtain ⟨h1,h2⟩:=h
 have hlt:n<list.length:=by
  rcases Nat.lt_or_ge n list.length with h | h
  ·exact h
  ·rw [List.drop_eq_nil_of_le h] at h1;cases h1
 rw [List.drop_eq_getElem_cons hlt] at h1
 cases h1
 exact ⟨hlt,by rw [om,List.getElem?_eq_getElem hlt],rfl,hlt⟩
theorem xZ {list:List eu} {n:Nat} (h:AtW list n []):n=list.length:=by
 have:=List.drop_eq_nil_iff.1 h.1
 have:=h.2
 omega
theorem tz {list:List eu} {n:Nat} {ws:List eu} (h:AtW list n ws) (t:Str):iG list (n:Int) t=some (isT ws t):=by rw [ao9,h.1]
theorem bc0 {list:List eu} {n:Nat} {ws:List eu} (h:AtW list n ws) {lv:Int} (hl:lv=1∨lv=2∨lv=3∨lv=4):iy list (n:Int) lv=some (opT lv ws):=by rw [bj1 _ _ _ hl,h.1]
theorem sI {n:Nat} (h:n≤2000):w64 ((n:Int)+1)=((n+1:Nat):Int):=by rw [hO (by omega) (by omega)];omega
theorem bk0 {n:Nat} (h:n≤2000):w64 ((n:Int)+2)=((n+2:Nat):Int):=by rw [hO (by omega) (by omega)];omega
theorem kU {list:List eu} (hl:list.length≤1000) {n:Nat} {w:eu} {ws:List eu} (h:AtW list n (w::ws)):jQ list (n:Int) =
  if w.text=mkS [33] then (jQ list ((n+1:Nat):Int)).bind λr=>some (⟨11,0,mkS [],[r.1]⟩,r.2)
  else if w.text=mkS [64] then (jQ list ((n+1:Nat):Int)).bind λr=>some (⟨12,0,mkS [],[r.1]⟩,r.2)
  else if w.text=mkS [40] then (fr list ((n+1:Nat):Int) 1).bind λr=>(if decide (r.2<0) then some true else (iG list r.2 (mkS [41])).bind λb=>some (!b):Option Bool).bind λs=>if s then some (r.1,-1) else some (r.1,w64 (r.2+1))
  else if w.kind=2 then some (⟨1,zQ w,mkS [],[]⟩,((n+1:Nat):Int))
  else if w.kind≠1 then some (⟨0,0,mkS [],[]⟩,-1)
  else if isT ws (mkS [40])=false then some (⟨2,0,w.text,[]⟩,((n+1:Nat):Int))
  else (mM list ((n+2:Nat):Int)).bind λr=>some (⟨13,0,w.text,r.1⟩,r.2):=by
 obtain ⟨h1,h2,h3⟩:=jK h
 rw [jQ,show (((12)+1:Int) - 11).toNat=2 from rfl]
 simp only [forN,aa5,show ((11:Int)+1)=12 from rfl,ab1,obS,sI (show n≤2000 by omega),bk0 (show n≤2000 by omega),tz h,tz h3,h2,zU]
 have e1:decide ((n:Int)<(list.length:Int))=true:=by simp;omega
 have e2:decide ((list.length:Int)≤(n:Int))=false:=by simp;omega
 rw [e1,e2]
 unfold isT
 by_cases c1:w.text=mkS [33]
 ·simp only [c1,decide_true,if_true]
  cases jQ list ((n+1:Nat):Int)<;>rfl
 by_cases c2:w.text=mkS [64]
 ·simp only [c1,c2,decide_true,decide_false,if_true,if_false,Bool.false_eq_true]
  cases jQ list ((n+1:Nat):Int)<;>rfl
 by_cases c3:w.text=mkS [40]
 ·have a1 : (mkS [40] : Str) ≠ mkS [33] := by decide
  have a2:(mkS [40]:Str)≠mkS [64]:=by decide
  simp [c3,a1,a2]
 by_cases c4:w.kind=2
 ·simp [c1,c2,c3,c4]
 by_cases c5:w.kind=1
 ·cases ws with
  | nil=>simp [c1,c2,c3,c5]
  | cons v ws=>by_cases c6:v.text=mkS [40]<;>simp [c1,c2,c3,c5,c6]
 ·simp [c1,c2,c3,c4,c5]
theorem af5 {list:List eu} {n:Nat} (h:AtW list n []):jQ list (n:Int)=some (⟨0,0,mkS [],[]⟩,-1):=by
 have h1:=xZ h
 rw [jQ,show (((12)+1:Int) - 11).toNat=2 from rfl]
 simp only [forN,aa5,show ((11:Int)+1)=12 from rfl,ab1,obS,tz h]
 have e1:decide ((n:Int)<(list.length:Int))=false:=by simp;omega
 have e2:decide ((list.length:Int)≤(n:Int))=true:=by simp;omega
 rw [e1,e2]
 simp [isT]
theorem oF (list:List eu) (n:Int):fr list n 5=jQ list n:=by
 rw [fr]
 rw [if_pos (by decide)]
 cases jQ list n<;>rfl
theorem aq2 {α:Type} {o:Option α}:(Option.bind o λe=>some e)=o:=by cases o<;>rfl
theorem xe {list:List eu} {n lv:Int} (hl:lv=1∨lv=2∨lv=3∨lv=4):fr list n lv=(fr list n (lv+1)).bind λr=>(gG (λ(uA:Int × Int × Str × (List ey) × Int)=>((if decide (0≤uA.2.2.2.2) then (iy list uA.2.2.2.2 lv).bind λuC=>some (decide (0<uC)) else some false:Option (Bool)).bind λuD=>if uD then (iy list uA.2.2.2.2 lv).bind λuE=>(fr list (w64 (uA.2.2.2.2+1)) (w64 (lv+1))).bind λuB=>some (.inl (uE,0,(mkS []),([(⟨uA.1,uA.2.1,uA.2.2.1,uA.2.2.2.1⟩:ey),uB.1]:List ey),uB.2)) else some (.inr (uA.1,uA.2.1,uA.2.2.1,uA.2.2.2.1,uA.2.2.2.2)):Option ((Int × Int × Str × (List ey) × Int) ⊕ (Int × Int × Str × (List ey) × Int)))) (r.1.op,r.1.n_,r.1.name,r.1.kids,r.2)).bind λs=>some (⟨s.1,s.2.1,s.2.2.1,s.2.2.2.1⟩,s.2.2.2.2):=by
 have e:w64 (lv+1)=lv+1:=hO (by omega) (by omega)
 have e2:decide (4<lv)=false:=by simp;omega
 rw [fr,e2]
 simp only [Bool.false_eq_true,if_false,e,aq2]
end Prg
end Go.Wk
namespace Go.Wk
open Go
namespace Prg
set_option maxRecDepth 10000
theorem rZ (e:ey):(⟨e.op,e.n_,e.name,e.kids⟩:ey)=e:=by cases e;rfl
theorem be3 (lv:Int) (w:eu):0≤opW lv w:=by
 unfold opW;repeat' split
 all_goals decide
theorem am2 {list:List eu} {n:Nat} {ws:List eu} (h:AtW list n ws) {lv:Int} (hl:lv=1∨lv=2∨lv=3∨lv=4) (ho:opT lv ws=0) {op n_:Int} {nm:Str} {ks:List ey} :
  gG (λ(uA:Int × Int × Str × (List ey) × Int)=>((if decide (0≤uA.2.2.2.2) then (iy list uA.2.2.2.2 lv).bind λuC=>some (decide (0<uC)) else some false:Option (Bool)).bind λuD=>if uD then (iy list uA.2.2.2.2 lv).bind λuE=>(fr list (w64 (uA.2.2.2.2+1)) (w64 (lv+1))).bind λuB=>some (.inl (uE,0,(mkS []),([(⟨uA.1,uA.2.1,uA.2.2.1,uA.2.2.2.1⟩:ey),uB.1]:List ey),uB.2)) else some (.inr (uA.1,uA.2.1,uA.2.2.1,uA.2.2.2.1,uA.2.2.2.2)):Option ((Int × Int × Str × (List ey) × Int) ⊕ (Int × Int × Str × (List ey) × Int)))) (op,n_,nm,ks,(n:Int))=some (op,n_,nm,ks,(n:Int)):=by
 refine gH ?_
 have e1:decide (0≤(n:Int))=true:=by simp
 simp only [e1,bc0 h hl,ho,obS]
 rfl
theorem ab2 {list:List eu} {lv:Int} {op n_:Int} {nm:Str} {ks:List ey} :
  gG (λ(uA:Int × Int × Str × (List ey) × Int)=>((if decide (0≤uA.2.2.2.2) then (iy list uA.2.2.2.2 lv).bind λuC=>some (decide (0<uC)) else some false:Option (Bool)).bind λuD=>if uD then (iy list uA.2.2.2.2 lv).bind λuE=>(fr list (w64 (uA.2.2.2.2+1)) (w64 (lv+1))).bind λuB=>some (.inl (uE,0,(mkS []),([(⟨uA.1,uA.2.1,uA.2.2.1,uA.2.2.2.1⟩:ey),uB.1]:List ey),uB.2)) else some (.inr (uA.1,uA.2.1,uA.2.2.1,uA.2.2.2.1,uA.2.2.2.2)):Option ((Int × Int × Str × (List ey) × Int) ⊕ (Int × Int × Str × (List ey) × Int)))) (op,n_,nm,ks,-1)=some (op,n_,nm,ks,-1):=by
 refine gH ?_
 rfl
theorem wW {list:List eu} (hlen:list.length≤1000) {n:Nat} {w:eu} {ws:List eu} (h:AtW list n (w::ws)) {lv:Int} (hl:lv=1∨lv=2∨lv=3∨lv=4) (ho:opW lv w≠0) {op n_:Int} {nm:Str} {ks:List ey} {f:ey} {m:Int}
  (hr:fr list ((n+1:Nat):Int) (lv+1)=some (f,m)) :
  gG (λ(uA:Int × Int × Str × (List ey) × Int)=>((if decide (0≤uA.2.2.2.2) then (iy list uA.2.2.2.2 lv).bind λuC=>some (decide (0<uC)) else some false:Option (Bool)).bind λuD=>if uD then (iy list uA.2.2.2.2 lv).bind λuE=>(fr list (w64 (uA.2.2.2.2+1)) (w64 (lv+1))).bind λuB=>some (.inl (uE,0,(mkS []),([(⟨uA.1,uA.2.1,uA.2.2.1,uA.2.2.2.1⟩:ey),uB.1]:List ey),uB.2)) else some (.inr (uA.1,uA.2.1,uA.2.2.1,uA.2.2.2.1,uA.2.2.2.2)):Option ((Int × Int × Str × (List ey) × Int) ⊕ (Int × Int × Str × (List ey) × Int)))) (op,n_,nm,ks,(n:Int))=gG (λ(uA:Int × Int × Str × (List ey) × Int)=>((if decide (0≤uA.2.2.2.2) then (iy list uA.2.2.2.2 lv).bind λuC=>some (decide (0<uC)) else some false:Option (Bool)).bind λuD=>if uD then (iy list uA.2.2.2.2 lv).bind λuE=>(fr list (w64 (uA.2.2.2.2+1)) (w64 (lv+1))).bind λuB=>some (.inl (uE,0,(mkS []),([(⟨uA.1,uA.2.1,uA.2.2.1,uA.2.2.2.1⟩:ey),uB.1]:List ey),uB.2)) else some (.inr (uA.1,uA.2.1,uA.2.2.1,uA.2.2.2.1,uA.2.2.2.2)):Option ((Int × Int × Str × (List ey) × Int) ⊕ (Int × Int × Str × (List ey) × Int)))) (opW lv w,0,mkS [],[⟨op,n_,nm,ks⟩,f],m):=by
 obtain ⟨h1,h2,h3⟩:=jK h
 refine iz ?_
 have e1:decide (0≤(n:Int))=true:=by simp
 have e2:decide (0<opW lv w)=true:=by have:=be3 lv w;simp;omega
 have e3:w64 (lv+1)=lv+1:=hO (by omega) (by omega)
 have e4:iy list (n:Int) lv=some (opW lv w):=bc0 h hl
 simp only [e1,e4,e2,e3,sI (show n≤2000 by omega),hr,obS,if_true]
theorem vl {list:List eu} (hlen:list.length≤1000) {n:Nat} {ws:List eu} (h:AtW list n ws):mM list (n:Int)=if isT ws (mkS [41]) then some ([],((n+1:Nat):Int)) else gG (λ(uC:Int × (List ey))=>((fr list uC.1 1).bind λuA=>(fq uC.2 ([uA.1]:List ey)).bind λuB=>(if decide (uA.2<0) then some true else (iG list uA.2 (mkS [41])).bind λuD=>some uD:Option (Bool)).bind λuE=>if uE then (jz uA.2).bind λuF=>some (.inr (uB,w64 (uA.2+uF))) else (iG list uA.2 (mkS [44])).bind λuG=>if !(uG) then some (.inr (uB,-1)) else some (.inl (w64 (uA.2+1),uB)):Option ((Int × (List ey)) ⊕ ((List ey) × Int)))) ((n:Int),[]):=by
 have:=h.2
 rw [mM,tz h,obS,sI (show n≤2000 by omega),aq2]
theorem ac3 {list:List eu} {q:Int} {acc:List ey} (ha:acc.length≤1000) {e:ey} (hr:fr list q 1=some (e,-1)):gG (λ(uC:Int × (List ey))=>((fr list uC.1 1).bind λuA=>(fq uC.2 ([uA.1]:List ey)).bind λuB=>(if decide (uA.2<0) then some true else (iG list uA.2 (mkS [41])).bind λuD=>some uD:Option (Bool)).bind λuE=>if uE then (jz uA.2).bind λuF=>some (.inr (uB,w64 (uA.2+uF))) else (iG list uA.2 (mkS [44])).bind λuG=>if !(uG) then some (.inr (uB,-1)) else some (.inl (w64 (uA.2+1),uB)):Option ((Int × (List ey)) ⊕ ((List ey) × Int)))) (q,acc)=some (acc++[e],-1):=by
 refine gH ?_
 simp only [hr,obS,jH (show acc.length+[e].length≤2147483648 by simp;omega)]
 rfl
theorem tk {list:List eu} (hlen:list.length≤1000) {q:Int} {acc:List ey} (ha:acc.length≤1000) {e:ey} {n:Nat} {ws:List eu} (h:AtW list n ws) (hr:fr list q 1=some (e,(n:Int))) :
  gG (λ(uC:Int × (List ey))=>((fr list uC.1 1).bind λuA=>(fq uC.2 ([uA.1]:List ey)).bind λuB=>(if decide (uA.2<0) then some true else (iG list uA.2 (mkS [41])).bind λuD=>some uD:Option (Bool)).bind λuE=>if uE then (jz uA.2).bind λuF=>some (.inr (uB,w64 (uA.2+uF))) else (iG list uA.2 (mkS [44])).bind λuG=>if !(uG) then some (.inr (uB,-1)) else some (.inl (w64 (uA.2+1),uB)):Option ((Int × (List ey)) ⊕ ((List ey) × Int)))) (q,acc)=if isT ws (mkS [41]) then some (acc++[e],((n+1:Nat):Int)) else if isT ws (mkS [44]) then gG (λ(uC:Int × (List ey))=>((fr list uC.1 1).bind λuA=>(fq uC.2 ([uA.1]:List ey)).bind λuB=>(if decide (uA.2<0) then some true else (iG list uA.2 (mkS [41])).bind λuD=>some uD:Option (Bool)).bind λuE=>if uE then (jz uA.2).bind λuF=>some (.inr (uB,w64 (uA.2+uF))) else (iG list uA.2 (mkS [44])).bind λuG=>if !(uG) then some (.inr (uB,-1)) else some (.inl (w64 (uA.2+1),uB)):Option ((Int × (List ey)) ⊕ ((List ey) × Int)))) (((n+1:Nat):Int),acc++[e]) else some (acc++[e],-1):=by
 have:=h.2
 have e1:decide ((n:Int)<0)=false:=by simp
 have hb:((λ(uC:Int × (List ey))=>((fr list uC.1 1).bind λuA=>(fq uC.2 ([uA.1]:List ey)).bind λuB=>(if decide (uA.2<0) then some true else (iG list uA.2 (mkS [41])).bind λuD=>some uD:Option (Bool)).bind λuE=>if uE then (jz uA.2).bind λuF=>some (.inr (uB,w64 (uA.2+uF))) else (iG list uA.2 (mkS [44])).bind λuG=>if !(uG) then some (.inr (uB,-1)) else some (.inl (w64 (uA.2+1),uB)):Option ((Int × (List ey)) ⊕ ((List ey) × Int)))):_→_) (q,acc)=if isT ws (mkS [41]) then some (.inr (acc++[e],((n+1:Nat):Int))) else if isT ws (mkS [44]) then some (.inl (((n+1:Nat):Int),acc++[e])) else some (.inr (acc++[e],-1)):=by
  have hs:jz (n:Int)=some 1:=by unfold jz;rw [e1];rfl
  simp only [hr,obS,jH (show acc.length+[e].length≤2147483648 by simp;omega),e1,tz h,hs,sI (show n≤2000 by omega),Bool.false_eq_true,if_false]
  cases isT ws (mkS [41])<;>cases isT ws (mkS [44])<;>rfl
 cases h1:isT ws (mkS [41]) with
 | true=>rw [h1] at hb;exact gH hb
 | false =>
  rw [h1] at hb
  cases h2:isT ws (mkS [44]) with
  | true=>rw [h2] at hb;exact iz hb
  | false=>rw [h2] at hb;exact gH hb
def ba1 (list:List eu):Job→Prop
 | .E lv ws e r=>∀ n,AtW list n ws→∃ m,AtW list m r∧n<m∧fr list (n:Int) lv=some (e,((m:Nat):Int))
 | .L lv x ws e r=>(lv=1∨lv=2∨lv=3∨lv=4)→∀ n,AtW list n ws→∃ m,AtW list m r∧n≤m∧gG (λ(uA:Int × Int × Str × (List ey) × Int)=>((if decide (0≤uA.2.2.2.2) then (iy list uA.2.2.2.2 lv).bind λuG=>some (decide (0<uG)) else some false:Option (Bool)).bind λuH=>if uH then (iy list uA.2.2.2.2 lv).bind λuC=>(fr list (w64 (uA.2.2.2.2+1)) (w64 (lv+1))).bind λuE=>some (.inl (uC,0,(mkS []),([(⟨uA.1,uA.2.1,uA.2.2.1,uA.2.2.2.1⟩:ey),uE.1]:List ey),uE.2)) else some (.inr (uA.1,uA.2.1,uA.2.2.1,uA.2.2.2.1,uA.2.2.2.2)):Option ((Int × Int × Str × (List ey) × Int) ⊕ (Int × Int × Str × (List ey) × Int)))) (x.op,x.n_,x.name,x.kids,(n:Int))=some (e.op,e.n_,e.name,e.kids,((m:Nat):Int))
 | .A ws ks r=>∀ n,AtW list n ws→∃ m,AtW list m r∧n<m∧mM list (n:Int)=some (ks,((m:Nat):Int))
 | .M acc ws ks r=>∀ n,AtW list n ws→∀ q acc0 e,acc=acc0++[e]→acc.length≤n→fr list q 1=some (e,(n:Int))→∃ m,AtW list m r∧n<m∧gG (λ(uF:Int × (List ey))=>((fr list uF.1 1).bind λuB=>(fq uF.2 ([uB.1]:List ey)).bind λuD=>(if decide (uB.2<0) then some true else (iG list uB.2 (mkS [41])).bind λuC=>some uC:Option (Bool)).bind λuI=>if uI then (jz uB.2).bind λuJ=>some (.inr (uD,w64 (uB.2+uJ))) else (iG list uB.2 (mkS [44])).bind λuK=>if !(uK) then some (.inr (uD,-1)) else some (.inl (w64 (uB.2+1),uD)):Option ((Int × (List ey)) ⊕ ((List ey) × Int)))) (q,acc0)=some (ks,((m:Nat):Int))
theorem rG {list:List eu} (hlen:list.length≤1000) (hv:∀ w∈list,k7 w=true) {j:Job} (h:Rd j):ba1 list j:=by
 have hin:∀ {n w ws},AtW list n (w::ws)→k7 w=true:=λ{n w ws} ha=>hv w (List.mem_of_mem_drop (by rw [ha.1];simp))
 have hne:∀ {w:eu} {c:UInt8} {t:Str},k7 w=true→w.kind≠3→t.b=[c]→c∈nP→w.text≠t:=λ{w c t} h1 h2 h3 h4 e=>h2 (p6 h1 (by rw [e];exact h3) h4)
 induction h<;>simp only [ba1] at *
 case neg w ws e r hw h ih =>
  intro n ha
  obtain ⟨h1,h2,h3⟩:=jK ha
  obtain ⟨m,g1,g2,g3⟩:=ih (n+1) h3
  rw [oF] at g3
  exact ⟨m,g1,by omega,by rw [oF,kU hlen ha,if_pos hw,g3];rfl⟩
 case at_ w ws e r hw h ih =>
  intro n ha
  obtain ⟨h1,h2,h3⟩:=jK ha
  obtain ⟨m,g1,g2,g3⟩:=ih (n+1) h3
  rw [oF] at g3
  exact ⟨m,g1,by omega,by rw [oF,kU hlen ha,if_neg (by rw [hw];decide),if_pos hw,g3];rfl⟩
 case par w ws e v r hw h hv2 ih =>
  intro n ha
  obtain ⟨h1,h2,h3⟩:=jK ha
  obtain ⟨m,g1,g2,g3⟩:=ih (n+1) h3
  obtain ⟨k1,k2,k3⟩:=jK g1
  refine ⟨m+1,k3,by omega,?_⟩
  have e1:decide ((m:Int)<0)=false:=by simp
  have e2:isT (v::r) (mkS [41])=true:=by simp [isT,hv2]
  rw [oF,kU hlen ha,if_neg (by rw [hw];decide),if_neg (by rw [hw];decide),if_pos hw,g3,obS]
  dsimp only
  rw [e1,tz g1,e2,sI (by omega)]
  rfl
 case num w r hw =>
  intro n ha
  obtain ⟨h1,h2,h3⟩:=jK ha
  have hk:w.kind≠3:=by omega
  exact ⟨n+1,h3,by omega,by rw [oF,kU hlen ha,if_neg (hne (hin ha) hk rfl (by decide)),if_neg (hne (hin ha) hk rfl (by decide)),if_neg (hne (hin ha) hk rfl (by decide)),if_pos hw]⟩
 case var w r hw ht =>
  intro n ha
  obtain ⟨h1,h2,h3⟩:=jK ha
  have hk:w.kind≠3:=by omega
  exact ⟨n+1,h3,by omega,by rw [oF,kU hlen ha,if_neg (hne (hin ha) hk rfl (by decide)),if_neg (hne (hin ha) hk rfl (by decide)),if_neg (hne (hin ha) hk rfl (by decide)),if_neg (by omega),if_neg (by omega),if_pos ht]⟩
 case call w v ws ks r hw ht h ih =>
  intro n ha
  obtain ⟨h1,h2,h3⟩:=jK ha
  obtain ⟨k1,k2,k3⟩:=jK h3
  obtain ⟨m,g1,g2,g3⟩:=ih (n+2) k3
  have hk:w.kind≠3:=by omega
  exact ⟨m,g1,by omega,by rw [oF,kU hlen ha,if_neg (hne (hin ha) hk rfl (by decide)),if_neg (hne (hin ha) hk rfl (by decide)),if_neg (hne (hin ha) hk rfl (by decide)),if_neg (by omega),if_neg (by omega),if_neg (by simp [isT,ht]),g3];rfl⟩
 case up lv ws e ws' e' r hl h1 h2 ih1 ih2 =>
  intro n ha
  obtain ⟨m,g1,g2,g3⟩:=ih1 n ha
  obtain ⟨k,k1,k2,k3⟩:=ih2 hl m g1
  exact ⟨k,k1,by omega,by rw [xe hl,g3,obS,k3,obS];dsimp only;rw [rZ]⟩
 case stop lv e ws ho =>
  intro hl n ha
  exact ⟨n,ha,Nat.le_refl _,am2 ha hl ho⟩
 case step lv e w ws f ws' e' r ho h1 h2 ih1 ih2 =>
  intro hl n ha
  obtain ⟨_,_,h3⟩:=jK ha
  obtain ⟨m,g1,g2,g3⟩:=ih1 (n+1) h3
  obtain ⟨k,k1,k2,k3⟩:=ih2 hl m g1
  exact ⟨k,k1,by omega,by rw [wW hlen ha hl ho g3,rZ];exact k3⟩
 case done v r hv2 =>
  intro n ha
  obtain ⟨_,_,h3⟩:=jK ha
  exact ⟨n+1,h3,by omega,by rw [vl hlen ha,if_pos (by simp [isT,hv2])]⟩
 case first ws e ws' ks r ht h1 h2 ih1 ih2 =>
  intro n ha
  obtain ⟨m,g1,g2,g3⟩:=ih1 n ha
  obtain ⟨k,k1,k2,k3⟩:=ih2 m g1 n [] e rfl (by simp;omega) g3
  exact ⟨k,k1,by omega,by rw [vl hlen ha,ht];exact k3⟩
 case last acc v r hv2 =>
  intro n ha q acc0 e he hle hr
  obtain ⟨h1,_,h3⟩:=jK ha
  refine ⟨n+1,h3,by omega,?_⟩
  rw [he] at hle ⊢
  simp at hle
  rw [tk hlen (by omega) ha hr,if_pos (by simp [isT,hv2])]
 case more acc v ws e ws' ks r hv2 h1 h2 ih1 ih2 =>
  intro n ha q acc0 e0 he hle hr
  obtain ⟨h1,_,h3⟩:=jK ha
  obtain ⟨m,g1,g2,g3⟩:=ih1 (n+1) h3
  obtain ⟨k,k1,k2,k3⟩:=ih2 m g1 ((n+1:Nat):Int) acc e rfl (by simp;omega) g3
  refine ⟨k,k1,by omega,?_⟩
  have hle2:=hle
  rw [he] at hle2
  simp at hle2
  rw [tk hlen (by omega) ha hr,if_neg (by simp [isT,hv2];try decide),if_pos (by simp [isT,hv2]),← he]
  exact k3
end Prg
end Go.Wk
namespace Go.Wk
open Go
namespace Prg
set_option maxRecDepth 10000
def vW (ws:List eu):Prop:=∀ w∈ws,k7 w=true
theorem kT {w:eu} {ws:List eu} (h:vW (w::ws)):vW ws:=λx hx=>h x (by simp [hx])
theorem oQ {w:eu} {ws:List eu} (h:vW (w::ws)):k7 w=true:=h w (by simp)
def isS (w:eu) (t:Str):Bool:=decide (w.kind=3)&&decide (w.text=t)
theorem zw {w:eu} (h:k7 w=true) {t:Str} {c:UInt8} (ht:t.b=[c]) (hc:c∈nP):(decide (w.kind=3)&&decide (w.text=t))=decide (w.text=t):=by
 by_cases h2:w.text=t
 ·have := p6 h (by rw [h2]; exact ht) hc
  simp [h2,this]
 ·simp [h2]
theorem n0 (r:ez):fD r 5=fk r:=by
 rw [fD,if_pos (by decide)]
 cases fk r<;>rfl
theorem ar5 {r:ez} {lv:Int} (hl:lv=1∨lv=2∨lv=3∨lv=4) {x:ey} {ws:List eu} {b:Bool} {y:ey × ez} (h1:fD r (lv+1)=some (x,⟨ws,b⟩))
  (h2:gG (λ(uA:(List eu) × Bool × Int × Int × Str × (List ey))=>(if !(uA.2.1) then ((mZ (λ(uB:Int × fO) (uH:Int)=>((if decide (uB.2.level=lv) then (gD (⟨uA.1,uA.2.1⟩:ez)).bind λuE=>(fN uB.2.sign).bind λuF=>some (decide (uE.kind=uF.kind)&&decide (uE.text=uF.text)) else some false:Option (Bool)).bind λuI=>(if uI then some uB.1 else some uH:Option (Int)).bind λuJ=>some uJ:Option (Int)).bind λuK=>some uK) (fA:jm fO).es 0).bind (λuL=>some uL):Option (Int)).bind λuG=>if decide (uG=0) then some (.inr (.inl ((⟨uA.2.2.1,uA.2.2.2.1,uA.2.2.2.2.1,uA.2.2.2.2.2⟩:ey),(⟨uA.1,uA.2.1⟩:ez)))) else (fb (⟨uA.1,uA.2.1⟩:ez)).bind λuM=>((fD uM.2 (w64 (lv+1))).bind λuC=>some (uC.2.list,uC.2.bad,([(⟨uA.2.2.1,uA.2.2.2.1,uA.2.2.2.2.1,uA.2.2.2.2.2⟩:ey),uC.1]:List ey)):Option ((List eu) × Bool × (List ey))).bind λuD=>some (.inl (uD.1,uD.2.1,uG,0,(mkS []),uD.2.2)) else some (.inr (.inr (uA.2.2.1,uA.2.2.2.1,uA.2.2.2.2.1,uA.2.2.2.2.2,uA.1,uA.2.1))):Option (((List eu) × Bool × Int × Int × Str × (List ey)) ⊕ ((ey × ez) ⊕ (Int × Int × Str × (List ey) × (List eu) × Bool))))) (ws,b,x.op,x.n_,x.name,x.kids)=some (.inl y)):fD r lv=some y:=by
 have e:w64 (lv+1)=lv+1:=hO (by omega) (by omega)
 have e2:decide (lv=5)=false:=by simp;omega
 rw [e] at h2
 rw [fD,e2]
 simp only [Bool.false_eq_true,if_false,e,h1,obS,h2]
 rfl
theorem w8 {r:ez} {lv:Int} (hl:lv=1∨lv=2∨lv=3∨lv=4) {x:ey} {ws ws':List eu} {b b':Bool} {op n_:Int} {nm:Str} {ks:List ey} (h1:fD r (lv+1)=some (x,⟨ws,b⟩))
  (h2:gG (λ(uA:(List eu) × Bool × Int × Int × Str × (List ey))=>(if !(uA.2.1) then ((mZ (λ(uB:Int × fO) (uH:Int)=>((if decide (uB.2.level=lv) then (gD (⟨uA.1,uA.2.1⟩:ez)).bind λuE=>(fN uB.2.sign).bind λuF=>some (decide (uE.kind=uF.kind)&&decide (uE.text=uF.text)) else some false:Option (Bool)).bind λuI=>(if uI then some uB.1 else some uH:Option (Int)).bind λuJ=>some uJ:Option (Int)).bind λuK=>some uK) (fA:jm fO).es 0).bind (λuL=>some uL):Option (Int)).bind λuG=>if decide (uG=0) then some (.inr (.inl ((⟨uA.2.2.1,uA.2.2.2.1,uA.2.2.2.2.1,uA.2.2.2.2.2⟩:ey),(⟨uA.1,uA.2.1⟩:ez)))) else (fb (⟨uA.1,uA.2.1⟩:ez)).bind λuM=>((fD uM.2 (w64 (lv+1))).bind λuC=>some (uC.2.list,uC.2.bad,([(⟨uA.2.2.1,uA.2.2.2.1,uA.2.2.2.2.1,uA.2.2.2.2.2⟩:ey),uC.1]:List ey)):Option ((List eu) × Bool × (List ey))).bind λuD=>some (.inl (uD.1,uD.2.1,uG,0,(mkS []),uD.2.2)) else some (.inr (.inr (uA.2.2.1,uA.2.2.2.1,uA.2.2.2.2.1,uA.2.2.2.2.2,uA.1,uA.2.1))):Option (((List eu) × Bool × Int × Int × Str × (List ey)) ⊕ ((ey × ez) ⊕ (Int × Int × Str × (List ey) × (List eu) × Bool))))) (ws,b,x.op,x.n_,x.name,x.kids)=some (.inr (op,n_,nm,ks,ws',b'))):fD r lv=some (⟨op,n_,nm,ks⟩,⟨ws',b'⟩):=by
 have e:w64 (lv+1)=lv+1:=hO (by omega) (by omega)
 have e2:decide (lv=5)=false:=by simp;omega
 rw [e] at h2
 rw [fD,e2]
 simp only [Bool.false_eq_true,if_false,e,h1,obS,h2]
 rfl
theorem x8 {lv:Int} {ws:List eu} {op n_:Int} {nm:Str} {ks:List ey}:gG (λ(uA:(List eu) × Bool × Int × Int × Str × (List ey))=>(if !(uA.2.1) then ((mZ (λ(uB:Int × fO) (uH:Int)=>((if decide (uB.2.level=lv) then (gD (⟨uA.1,uA.2.1⟩:ez)).bind λuE=>(fN uB.2.sign).bind λuF=>some (decide (uE.kind=uF.kind)&&decide (uE.text=uF.text)) else some false:Option (Bool)).bind λuI=>(if uI then some uB.1 else some uH:Option (Int)).bind λuJ=>some uJ:Option (Int)).bind λuK=>some uK) (fA:jm fO).es 0).bind (λuL=>some uL):Option (Int)).bind λuG=>if decide (uG=0) then some (.inr (.inl ((⟨uA.2.2.1,uA.2.2.2.1,uA.2.2.2.2.1,uA.2.2.2.2.2⟩:ey),(⟨uA.1,uA.2.1⟩:ez)))) else (fb (⟨uA.1,uA.2.1⟩:ez)).bind λuM=>((fD uM.2 (w64 (lv+1))).bind λuC=>some (uC.2.list,uC.2.bad,([(⟨uA.2.2.1,uA.2.2.2.1,uA.2.2.2.2.1,uA.2.2.2.2.2⟩:ey),uC.1]:List ey)):Option ((List eu) × Bool × (List ey))).bind λuD=>some (.inl (uD.1,uD.2.1,uG,0,(mkS []),uD.2.2)) else some (.inr (.inr (uA.2.2.1,uA.2.2.2.1,uA.2.2.2.2.1,uA.2.2.2.2.2,uA.1,uA.2.1))):Option (((List eu) × Bool × Int × Int × Str × (List ey)) ⊕ ((ey × ez) ⊕ (Int × Int × Str × (List ey) × (List eu) × Bool))))) (ws,true,op,n_,nm,ks)=some (.inr (op,n_,nm,ks,ws,true)):=gH rfl
theorem al0 {lv:Int} (hl:lv=1∨lv=2∨lv=3∨lv=4) {ws:List eu} (hw:vW ws) (ho:opT lv ws=0) {op n_:Int} {nm:Str} {ks:List ey} :
  gG (λ(uA:(List eu) × Bool × Int × Int × Str × (List ey))=>(if !(uA.2.1) then ((mZ (λ(uB:Int × fO) (uH:Int)=>((if decide (uB.2.level=lv) then (gD (⟨uA.1,uA.2.1⟩:ez)).bind λuE=>(fN uB.2.sign).bind λuF=>some (decide (uE.kind=uF.kind)&&decide (uE.text=uF.text)) else some false:Option (Bool)).bind λuI=>(if uI then some uB.1 else some uH:Option (Int)).bind λuJ=>some uJ:Option (Int)).bind λuK=>some uK) (fA:jm fO).es 0).bind (λuL=>some uL):Option (Int)).bind λuG=>if decide (uG=0) then some (.inr (.inl ((⟨uA.2.2.1,uA.2.2.2.1,uA.2.2.2.2.1,uA.2.2.2.2.2⟩:ey),(⟨uA.1,uA.2.1⟩:ez)))) else (fb (⟨uA.1,uA.2.1⟩:ez)).bind λuM=>((fD uM.2 (w64 (lv+1))).bind λuC=>some (uC.2.list,uC.2.bad,([(⟨uA.2.2.1,uA.2.2.2.1,uA.2.2.2.2.1,uA.2.2.2.2.2⟩:ey),uC.1]:List ey)):Option ((List eu) × Bool × (List ey))).bind λuD=>some (.inl (uD.1,uD.2.1,uG,0,(mkS []),uD.2.2)) else some (.inr (.inr (uA.2.2.1,uA.2.2.2.1,uA.2.2.2.2.1,uA.2.2.2.2.2,uA.1,uA.2.1))):Option (((List eu) × Bool × Int × Int × Str × (List ey)) ⊕ ((ey × ez) ⊕ (Int × Int × Str × (List ey) × (List eu) × Bool))))) (ws,false,op,n_,nm,ks)=some (.inl (⟨op,n_,nm,ks⟩,⟨ws,false⟩)):=by
 refine gH ?_
 dsimp only
 rw [if_pos (show (!false)=true from rfl)]
 refine fT (fT (al6 ws hw lv hl λp s=>?_) rfl) ?_
 ·simp only [sf,fN,obS]
  unfold qE
  by_cases c1:p.2.level=lv<;>by_cases c2:(pkW ws).kind=3<;>by_cases c3:(pkW ws).text=p.2.sign<;>simp [c1,c2,c3]
 ·rw [ho];rfl
theorem wa {lv:Int} (hl:lv=1∨lv=2∨lv=3∨lv=4) {w:eu} {ws:List eu} (hw:vW (w::ws)) (ho:opW lv w≠0) {op n_:Int} {nm:Str} {ks:List ey} {f:ey} {ws':List eu} {b:Bool}
  (hr:fD ⟨ws,false⟩ (lv+1)=some (f,⟨ws',b⟩)) :
  gG (λ(uA:(List eu) × Bool × Int × Int × Str × (List ey))=>(if !(uA.2.1) then ((mZ (λ(uB:Int × fO) (uH:Int)=>((if decide (uB.2.level=lv) then (gD (⟨uA.1,uA.2.1⟩:ez)).bind λuE=>(fN uB.2.sign).bind λuF=>some (decide (uE.kind=uF.kind)&&decide (uE.text=uF.text)) else some false:Option (Bool)).bind λuI=>(if uI then some uB.1 else some uH:Option (Int)).bind λuJ=>some uJ:Option (Int)).bind λuK=>some uK) (fA:jm fO).es 0).bind (λuL=>some uL):Option (Int)).bind λuG=>if decide (uG=0) then some (.inr (.inl ((⟨uA.2.2.1,uA.2.2.2.1,uA.2.2.2.2.1,uA.2.2.2.2.2⟩:ey),(⟨uA.1,uA.2.1⟩:ez)))) else (fb (⟨uA.1,uA.2.1⟩:ez)).bind λuM=>((fD uM.2 (w64 (lv+1))).bind λuC=>some (uC.2.list,uC.2.bad,([(⟨uA.2.2.1,uA.2.2.2.1,uA.2.2.2.2.1,uA.2.2.2.2.2⟩:ey),uC.1]:List ey)):Option ((List eu) × Bool × (List ey))).bind λuD=>some (.inl (uD.1,uD.2.1,uG,0,(mkS []),uD.2.2)) else some (.inr (.inr (uA.2.2.1,uA.2.2.2.1,uA.2.2.2.2.1,uA.2.2.2.2.2,uA.1,uA.2.1))):Option (((List eu) × Bool × Int × Int × Str × (List ey)) ⊕ ((ey × ez) ⊕ (Int × Int × Str × (List ey) × (List eu) × Bool))))) (w::ws,false,op,n_,nm,ks)=gG (λ(uA:(List eu) × Bool × Int × Int × Str × (List ey))=>(if !(uA.2.1) then ((mZ (λ(uB:Int × fO) (uH:Int)=>((if decide (uB.2.level=lv) then (gD (⟨uA.1,uA.2.1⟩:ez)).bind λuE=>(fN uB.2.sign).bind λuF=>some (decide (uE.kind=uF.kind)&&decide (uE.text=uF.text)) else some false:Option (Bool)).bind λuI=>(if uI then some uB.1 else some uH:Option (Int)).bind λuJ=>some uJ:Option (Int)).bind λuK=>some uK) (fA:jm fO).es 0).bind (λuL=>some uL):Option (Int)).bind λuG=>if decide (uG=0) then some (.inr (.inl ((⟨uA.2.2.1,uA.2.2.2.1,uA.2.2.2.2.1,uA.2.2.2.2.2⟩:ey),(⟨uA.1,uA.2.1⟩:ez)))) else (fb (⟨uA.1,uA.2.1⟩:ez)).bind λuM=>((fD uM.2 (w64 (lv+1))).bind λuC=>some (uC.2.list,uC.2.bad,([(⟨uA.2.2.1,uA.2.2.2.1,uA.2.2.2.2.1,uA.2.2.2.2.2⟩:ey),uC.1]:List ey)):Option ((List eu) × Bool × (List ey))).bind λuD=>some (.inl (uD.1,uD.2.1,uG,0,(mkS []),uD.2.2)) else some (.inr (.inr (uA.2.2.1,uA.2.2.2.1,uA.2.2.2.2.1,uA.2.2.2.2.2,uA.1,uA.2.1))):Option (((List eu) × Bool × Int × Int × Str × (List ey)) ⊕ ((ey × ez) ⊕ (Int × Int × Str × (List ey) × (List eu) × Bool))))) (ws',b,opW lv w,0,mkS [],[⟨op,n_,nm,ks⟩,f]):=by
 refine iz ?_
 dsimp only
 rw [if_pos (show (!false)=true from rfl)]
 refine fT (fT (al6 (w::ws) hw lv hl λp s=>?_) rfl) ?_
 ·simp only [sf,fN,obS]
  unfold qE
  by_cases c1:p.2.level=lv<;>by_cases c2:(pkW (w::ws)).kind=3<;>by_cases c3:(pkW (w::ws)).text=p.2.sign<;>simp [c1,c2,c3]
 ·have e2:decide (opT lv (w::ws)=0)=false:=decide_eq_false ho
  have e:w64 (lv+1)=lv+1:=hO (by omega) (by omega)
  rw [e2,oZ,e,obS,hr]
  rfl
theorem zR:fk ⟨[],false⟩=some (⟨0,0,mkS [],[]⟩,⟨[],true⟩):=by
 rw [fk,qp];rfl
theorem z8 (ws:List eu):∃ ws',fk ⟨ws,true⟩=some (⟨0,0,mkS [],[]⟩,⟨ws',true⟩):=by
 cases ws with
 | nil=>exact ⟨[],by rw [fk,qp];rfl⟩
 | cons w ws=>exact ⟨ws,by rw [fk,oZ];rfl⟩
theorem kB {w:eu} {ws:List eu} (hw:vW (w::ws)):fk ⟨w::ws,false⟩ =
  if w.text=mkS [33] then (fk ⟨ws,false⟩).bind λr=>some (⟨11,0,mkS [],[r.1]⟩,r.2)
  else if w.text=mkS [64] then (fk ⟨ws,false⟩).bind λr=>some (⟨12,0,mkS [],[r.1]⟩,r.2)
  else if w.text=mkS [40] then (fD ⟨ws,false⟩ 1).bind λr=>(fC r.2 3 (mkS [41])).bind λq=>some (r.1,q)
  else if w.kind=2 then some (⟨1,zQ w,mkS [],[]⟩,⟨ws,false⟩)
  else if w.kind≠1 then some (⟨0,0,mkS [],[]⟩,⟨ws,true⟩)
  else if isT ws (mkS [40])=false then some (⟨2,0,w.text,[]⟩,⟨ws,false⟩)
  else (gG (λ(uA:(List eu) × Bool × (List ey))=>((if !(uA.2.1) then (fJ (⟨uA.1,uA.2.1⟩:ez) 3 (mkS [41])).bind λuC=>some (uC.2.list,uC.2.bad,!(uC.1)) else some (uA.1,uA.2.1,false):Option ((List eu) × Bool × Bool)).bind λuB=>if uB.2.2 then (if decide (0<((uA.2.2.length:Int))) then (fC (⟨uB.1,uB.2.1⟩:ez) 3 (mkS [44])).bind λuE=>some (uE.list,uE.bad) else some (uB.1,uB.2.1):Option ((List eu) × Bool)).bind λuF=>(fD (⟨uF.1,uF.2⟩:ez) 1).bind λuD=>(fq uA.2.2 ([uD.1]:List ey)).bind λuG=>some (.inl (uD.2.list,uD.2.bad,uG)) else some (.inr (uA.2.2,uB.1,uB.2.1)):Option (((List eu) × Bool × (List ey)) ⊕ ((List ey) × (List eu) × Bool)))) (ws.tail,false,[])).bind λs=>some (⟨13,0,w.text,s.1⟩,⟨s.2.1,s.2.2⟩):=by
 have h0:=oQ hw
 have a1:=zw h0 (t:=mkS [33]) rfl (by decide)
 have a2:=zw h0 (t:=mkS [64]) rfl (by decide)
 have a3:=zw h0 (t:=mkS [40]) rfl (by decide)
 rw [fk,oZ]
 simp only [obS,Bool.false_eq_true,if_false,fN,a1,a2,a3,ag6,lY,qM (kT hw) (t:=mkS [40]) rfl (by decide),aq2,decide_eq_true_eq]
 by_cases c1:w.text=mkS [33]
 ·simp only [c1,if_true]
 by_cases c2:w.text=mkS [64]
 ·simp only [c1,c2,if_true,if_false]
 by_cases c3:w.text=mkS [40]
 ·simp only [c1,c2,c3,if_true,if_false]
 by_cases c4:w.kind=2
 ·simp only [c1,c2,c3,c4,if_true,if_false]
 by_cases c5:w.kind=1
 ·cases c6:isT ws (mkS [40])<;>simp [c1,c2,c3,c5]
 ·simp [c1,c2,c3,c4,c5]
theorem q9 (lv:Int) (hl:lv=1∨lv=2∨lv=3∨lv=4∨lv=5) (ws:List eu):∃ e ws',fD ⟨ws,true⟩ lv=some (e,⟨ws',true⟩):=by
 have h5:∃ e ws',fD ⟨ws,true⟩ 5=some (e,⟨ws',true⟩):=by
  obtain ⟨ws',h⟩:=z8 ws
  exact ⟨_,ws',by rw [n0];exact h⟩
 have hs:∀ lv:Int,(lv=1∨lv=2∨lv=3∨lv=4)→(∃ e ws',fD ⟨ws,true⟩ (lv+1)=some (e,⟨ws',true⟩))→∃ e ws',fD ⟨ws,true⟩ lv=some (e,⟨ws',true⟩):=by
  rintro lv hl ⟨e,ws',h⟩
  exact ⟨_,_,w8 hl h x8⟩
 have h4:=hs 4 (by omega) h5
 have h3:=hs 3 (by omega) h4
 have h2:=hs 2 (by omega) h3
 have h1:=hs 1 (by omega) h2
 rcases hl with rfl | rfl | rfl | rfl | rfl<;>assumption
theorem xw {ws:List eu} {ks:List ey}:gG (λ(uA:(List eu) × Bool × (List ey))=>((if !(uA.2.1) then (fJ (⟨uA.1,uA.2.1⟩:ez) 3 (mkS [41])).bind λuC=>some (uC.2.list,uC.2.bad,!(uC.1)) else some (uA.1,uA.2.1,false):Option ((List eu) × Bool × Bool)).bind λuB=>if uB.2.2 then (if decide (0<((uA.2.2.length:Int))) then (fC (⟨uB.1,uB.2.1⟩:ez) 3 (mkS [44])).bind λuE=>some (uE.list,uE.bad) else some (uB.1,uB.2.1):Option ((List eu) × Bool)).bind λuF=>(fD (⟨uF.1,uF.2⟩:ez) 1).bind λuD=>(fq uA.2.2 ([uD.1]:List ey)).bind λuG=>some (.inl (uD.2.list,uD.2.bad,uG)) else some (.inr (uA.2.2,uB.1,uB.2.1)):Option (((List eu) × Bool × (List ey)) ⊕ ((List ey) × (List eu) × Bool)))) (ws,true,ks)=some (ks,ws,true):=gH rfl
theorem ab6 {v:eu} {ws:List eu} (hw:vW (v::ws)) (hv:v.text=mkS [41]) {ks:List ey}:gG (λ(uA:(List eu) × Bool × (List ey))=>((if !(uA.2.1) then (fJ (⟨uA.1,uA.2.1⟩:ez) 3 (mkS [41])).bind λuC=>some (uC.2.list,uC.2.bad,!(uC.1)) else some (uA.1,uA.2.1,false):Option ((List eu) × Bool × Bool)).bind λuB=>if uB.2.2 then (if decide (0<((uA.2.2.length:Int))) then (fC (⟨uB.1,uB.2.1⟩:ez) 3 (mkS [44])).bind λuE=>some (uE.list,uE.bad) else some (uB.1,uB.2.1):Option ((List eu) × Bool)).bind λuF=>(fD (⟨uF.1,uF.2⟩:ez) 1).bind λuD=>(fq uA.2.2 ([uD.1]:List ey)).bind λuG=>some (.inl (uD.2.list,uD.2.bad,uG)) else some (.inr (uA.2.2,uB.1,uB.2.1)):Option (((List eu) × Bool × (List ey)) ⊕ ((List ey) × (List eu) × Bool)))) (v::ws,false,ks)=some (ks,ws,false):=by
 refine gH ?_
 have e:isT (v::ws) (mkS [41])=true:=by simp [isT,hv]
 simp only [lY,qM hw (t:=mkS [41]) rfl (by decide),e]
 rfl
theorem tc {ws:List eu} (hw:vW ws) (ht:isT ws (mkS [41])=false) {e:ey} {ws':List eu} {b:Bool} (hr:fD ⟨ws,false⟩ 1=some (e,⟨ws',b⟩)) :
  gG (λ(uA:(List eu) × Bool × (List ey))=>((if !(uA.2.1) then (fJ (⟨uA.1,uA.2.1⟩:ez) 3 (mkS [41])).bind λuC=>some (uC.2.list,uC.2.bad,!(uC.1)) else some (uA.1,uA.2.1,false):Option ((List eu) × Bool × Bool)).bind λuB=>if uB.2.2 then (if decide (0<((uA.2.2.length:Int))) then (fC (⟨uB.1,uB.2.1⟩:ez) 3 (mkS [44])).bind λuE=>some (uE.list,uE.bad) else some (uB.1,uB.2.1):Option ((List eu) × Bool)).bind λuF=>(fD (⟨uF.1,uF.2⟩:ez) 1).bind λuD=>(fq uA.2.2 ([uD.1]:List ey)).bind λuG=>some (.inl (uD.2.list,uD.2.bad,uG)) else some (.inr (uA.2.2,uB.1,uB.2.1)):Option (((List eu) × Bool × (List ey)) ⊕ ((List ey) × (List eu) × Bool)))) (ws,false,[])=gG (λ(uA:(List eu) × Bool × (List ey))=>((if !(uA.2.1) then (fJ (⟨uA.1,uA.2.1⟩:ez) 3 (mkS [41])).bind λuC=>some (uC.2.list,uC.2.bad,!(uC.1)) else some (uA.1,uA.2.1,false):Option ((List eu) × Bool × Bool)).bind λuB=>if uB.2.2 then (if decide (0<((uA.2.2.length:Int))) then (fC (⟨uB.1,uB.2.1⟩:ez) 3 (mkS [44])).bind λuE=>some (uE.list,uE.bad) else some (uB.1,uB.2.1):Option ((List eu) × Bool)).bind λuF=>(fD (⟨uF.1,uF.2⟩:ez) 1).bind λuD=>(fq uA.2.2 ([uD.1]:List ey)).bind λuG=>some (.inl (uD.2.list,uD.2.bad,uG)) else some (.inr (uA.2.2,uB.1,uB.2.1)):Option (((List eu) × Bool × (List ey)) ⊕ ((List ey) × (List eu) × Bool)))) (ws',b,[e]):=by
 refine iz ?_
 simp only [lY,qM hw (t:=mkS [41]) rfl (by decide),ht]
 have e0:decide (0<(([]:List ey).length:Int))=false:=rfl
 simp only [Bool.not_false,if_true,obS,e0,Bool.false_eq_true,if_false,hr]
 rfl
theorem wQ {acc:List ey} (h0:acc≠[]) (hal:acc.length≤1000) {v:eu} {ws:List eu} (hw:vW (v::ws)) (hv:v.text=mkS [44]) {e:ey} {ws':List eu} {b:Bool} (hr:fD ⟨ws,false⟩ 1=some (e,⟨ws',b⟩)) :
  gG (λ(uA:(List eu) × Bool × (List ey))=>((if !(uA.2.1) then (fJ (⟨uA.1,uA.2.1⟩:ez) 3 (mkS [41])).bind λuC=>some (uC.2.list,uC.2.bad,!(uC.1)) else some (uA.1,uA.2.1,false):Option ((List eu) × Bool × Bool)).bind λuB=>if uB.2.2 then (if decide (0<((uA.2.2.length:Int))) then (fC (⟨uB.1,uB.2.1⟩:ez) 3 (mkS [44])).bind λuE=>some (uE.list,uE.bad) else some (uB.1,uB.2.1):Option ((List eu) × Bool)).bind λuF=>(fD (⟨uF.1,uF.2⟩:ez) 1).bind λuD=>(fq uA.2.2 ([uD.1]:List ey)).bind λuG=>some (.inl (uD.2.list,uD.2.bad,uG)) else some (.inr (uA.2.2,uB.1,uB.2.1)):Option (((List eu) × Bool × (List ey)) ⊕ ((List ey) × (List eu) × Bool)))) (v::ws,false,acc)=gG (λ(uA:(List eu) × Bool × (List ey))=>((if !(uA.2.1) then (fJ (⟨uA.1,uA.2.1⟩:ez) 3 (mkS [41])).bind λuC=>some (uC.2.list,uC.2.bad,!(uC.1)) else some (uA.1,uA.2.1,false):Option ((List eu) × Bool × Bool)).bind λuB=>if uB.2.2 then (if decide (0<((uA.2.2.length:Int))) then (fC (⟨uB.1,uB.2.1⟩:ez) 3 (mkS [44])).bind λuE=>some (uE.list,uE.bad) else some (uB.1,uB.2.1):Option ((List eu) × Bool)).bind λuF=>(fD (⟨uF.1,uF.2⟩:ez) 1).bind λuD=>(fq uA.2.2 ([uD.1]:List ey)).bind λuG=>some (.inl (uD.2.list,uD.2.bad,uG)) else some (.inr (uA.2.2,uB.1,uB.2.1)):Option (((List eu) × Bool × (List ey)) ⊕ ((List ey) × (List eu) × Bool)))) (ws',b,acc++[e]):=by
 refine iz ?_
 have e1:isT (v::ws) (mkS [41])=false:=by simp [isT,hv];decide
 have e2:isT (v::ws) (mkS [44])=true:=by simp [isT,hv]
 have e0:decide (0<(acc.length:Int))=true:=by have:=List.length_pos_iff.2 h0;simp;omega
 simp only [lY,qM hw (t:=mkS [41]) rfl (by decide),pz,qM hw (t:=mkS [44]) rfl (by decide),e1,e2,Bool.not_false,if_true,obS,e0,Bool.false_eq_true,if_false,List.tail_cons,hr,jH (show acc.length+[e].length≤2147483648 by simp;omega)]
theorem zE {acc:List ey} (h0:acc≠[]) (hal:acc.length≤1000) {ws:List eu} (hw:vW ws) (h1:isT ws (mkS [41])=false) (h2:isT ws (mkS [44])=false) :
  ∃ ks ws',gG (λ(uA:(List eu) × Bool × (List ey))=>((if !(uA.2.1) then (fJ (⟨uA.1,uA.2.1⟩:ez) 3 (mkS [41])).bind λuC=>some (uC.2.list,uC.2.bad,!(uC.1)) else some (uA.1,uA.2.1,false):Option ((List eu) × Bool × Bool)).bind λuB=>if uB.2.2 then (if decide (0<((uA.2.2.length:Int))) then (fC (⟨uB.1,uB.2.1⟩:ez) 3 (mkS [44])).bind λuE=>some (uE.list,uE.bad) else some (uB.1,uB.2.1):Option ((List eu) × Bool)).bind λuF=>(fD (⟨uF.1,uF.2⟩:ez) 1).bind λuD=>(fq uA.2.2 ([uD.1]:List ey)).bind λuG=>some (.inl (uD.2.list,uD.2.bad,uG)) else some (.inr (uA.2.2,uB.1,uB.2.1)):Option (((List eu) × Bool × (List ey)) ⊕ ((List ey) × (List eu) × Bool)))) (ws,false,acc)=some (ks,ws',true):=by
 obtain ⟨e,ws',hr⟩:=q9 1 (by omega) ws
 refine ⟨acc++[e],ws',?_⟩
 rw [iz (s':=(ws',true,acc++[e]))]
 ·exact xw
 have e0:decide (0<(acc.length:Int))=true:=by have:=List.length_pos_iff.2 h0;simp;omega
 simp only [lY,qM hw (t:=mkS [41]) rfl (by decide),pz,qM hw (t:=mkS [44]) rfl (by decide),h1,h2,Bool.not_false,if_true,obS,e0,Bool.false_eq_true,if_false,hr,jH (show acc.length+[e].length≤2147483648 by simp;omega)]
end Prg
end Go.Wk
namespace Go.Wk
open Go
namespace Prg
set_option maxRecDepth 10000
def bi1:Job→Prop
 | .E lv ws e r=>vW ws→ws.length≤1000→fD ⟨ws,false⟩ lv=some (e,⟨r,false⟩)
 | .L lv x ws e r=>(lv=1∨lv=2∨lv=3∨lv=4)→vW ws→ws.length≤1000→gG (λ(uA:(List eu) × Bool × Int × Int × Str × (List ey))=>(if !(uA.2.1) then ((mZ (λ(uG:Int × fO) (uL:Int)=>((if decide (uG.2.level=lv) then (gD (⟨uA.1,uA.2.1⟩:ez)).bind λuJ=>(fN uG.2.sign).bind λuK=>some (decide (uJ.kind=uK.kind)&&decide (uJ.text=uK.text)) else some false:Option (Bool)).bind λuM=>(if uM then some uG.1 else some uL:Option (Int)).bind λuN=>some uN:Option (Int)).bind λuO=>some uO) (fA:jm fO).es 0).bind (λuP=>some uP):Option (Int)).bind λuB=>if decide (uB=0) then some (.inr (.inl ((⟨uA.2.2.1,uA.2.2.2.1,uA.2.2.2.2.1,uA.2.2.2.2.2⟩:ey),(⟨uA.1,uA.2.1⟩:ez)))) else (fb (⟨uA.1,uA.2.1⟩:ez)).bind λuC=>((fD uC.2 (w64 (lv+1))).bind λuH=>some (uH.2.list,uH.2.bad,([(⟨uA.2.2.1,uA.2.2.2.1,uA.2.2.2.2.1,uA.2.2.2.2.2⟩:ey),uH.1]:List ey)):Option ((List eu) × Bool × (List ey))).bind λuD=>some (.inl (uD.1,uD.2.1,uB,0,(mkS []),uD.2.2)) else some (.inr (.inr (uA.2.2.1,uA.2.2.2.1,uA.2.2.2.2.1,uA.2.2.2.2.2,uA.1,uA.2.1))):Option (((List eu) × Bool × Int × Int × Str × (List ey)) ⊕ ((ey × ez) ⊕ (Int × Int × Str × (List ey) × (List eu) × Bool))))) (ws,false,x.op,x.n_,x.name,x.kids)=some (.inl (e,⟨r,false⟩))
 | .A ws ks r=>vW ws→ws.length≤1000→gG (λ(uA:(List eu) × Bool × (List ey))=>((if !(uA.2.1) then (fJ (⟨uA.1,uA.2.1⟩:ez) 3 (mkS [41])).bind λuE=>some (uE.2.list,uE.2.bad,!(uE.1)) else some (uA.1,uA.2.1,false):Option ((List eu) × Bool × Bool)).bind λuB=>if uB.2.2 then (if decide (0<((uA.2.2.length:Int))) then (fC (⟨uB.1,uB.2.1⟩:ez) 3 (mkS [44])).bind λuF=>some (uF.list,uF.bad) else some (uB.1,uB.2.1):Option ((List eu) × Bool)).bind λuD=>(fD (⟨uD.1,uD.2⟩:ez) 1).bind λuC=>(fq uA.2.2 ([uC.1]:List ey)).bind λuI=>some (.inl (uC.2.list,uC.2.bad,uI)) else some (.inr (uA.2.2,uB.1,uB.2.1)):Option (((List eu) × Bool × (List ey)) ⊕ ((List ey) × (List eu) × Bool)))) (ws,false,[])=some (ks,r,false)
 | .M acc ws ks r=>acc≠[]→vW ws→acc.length+ws.length≤1000→gG (λ(uA:(List eu) × Bool × (List ey))=>((if !(uA.2.1) then (fJ (⟨uA.1,uA.2.1⟩:ez) 3 (mkS [41])).bind λuE=>some (uE.2.list,uE.2.bad,!(uE.1)) else some (uA.1,uA.2.1,false):Option ((List eu) × Bool × Bool)).bind λuB=>if uB.2.2 then (if decide (0<((uA.2.2.length:Int))) then (fC (⟨uB.1,uB.2.1⟩:ez) 3 (mkS [44])).bind λuF=>some (uF.list,uF.bad) else some (uB.1,uB.2.1):Option ((List eu) × Bool)).bind λuD=>(fD (⟨uD.1,uD.2⟩:ez) 1).bind λuC=>(fq uA.2.2 ([uC.1]:List ey)).bind λuI=>some (.inl (uC.2.list,uC.2.bad,uI)) else some (.inr (uA.2.2,uB.1,uB.2.1)):Option (((List eu) × Bool × (List ey)) ⊕ ((List ey) × (List eu) × Bool)))) (ws,false,acc)=some (ks,r,false)
theorem oW {w:eu} {c:UInt8} {t:Str} (h1:k7 w=true) (h2:w.kind≠3) (h3:t.b=[c]) (h4:c∈nP):w.text≠t:=λe=>h2 (p6 h1 (by rw [e];exact h3) h4)
theorem pD {j:Job} (h:Rd j):bi1 j:=by
 induction h
 case neg w ws e r hw h ih =>
  intro ha hl
  have g:=ih (kT ha) (by simp at hl;omega)
  rw [n0] at g
  rw [n0,kB ha,if_pos hw,g];rfl
 case at_ w ws e r hw h ih =>
  intro ha hl
  have g:=ih (kT ha) (by simp at hl;omega)
  rw [n0] at g
  rw [n0,kB ha,if_neg (by rw [hw];decide),if_pos hw,g];rfl
 case par w ws e v r hw h hv2 ih =>
  intro ha hl
  have g:=ih (kT ha) (by simp at hl;omega)
  obtain ⟨s1,s2⟩:=ma h
  have hv3:vW (v::r):=λx hx=>kT ha x (s2 x hx)
  have e2:isT (v::r) (mkS [41])=true:=by simp [isT,hv2]
  rw [n0,kB ha,if_neg (by rw [hw];decide),if_neg (by rw [hw];decide),if_pos hw,g,obS]
  dsimp only
  rw [pz,qM hv3 rfl (by decide),e2];rfl
 case num w r hw =>
  intro ha hl
  have hk:w.kind≠3:=by omega
  have h0:=oQ ha
  rw [n0,kB ha,if_neg (oW h0 hk rfl (by decide)),if_neg (oW h0 hk rfl (by decide)),if_neg (oW h0 hk rfl (by decide)),if_pos hw]
 case var w r hw ht =>
  intro ha hl
  have hk:w.kind≠3:=by omega
  have h0:=oQ ha
  rw [n0,kB ha,if_neg (oW h0 hk rfl (by decide)),if_neg (oW h0 hk rfl (by decide)),if_neg (oW h0 hk rfl (by decide)),if_neg (by omega),if_neg (by omega),if_pos ht]
 case call w v ws ks r hw ht h ih =>
  intro ha hl
  have hk:w.kind≠3:=by omega
  have h0:=oQ ha
  have g:=ih (kT (kT ha)) (by simp at hl;omega)
  rw [n0,kB ha,if_neg (oW h0 hk rfl (by decide)),if_neg (oW h0 hk rfl (by decide)),if_neg (oW h0 hk rfl (by decide)),if_neg (by omega),if_neg (by omega),if_neg (by simp [isT,ht]),List.tail_cons,g];rfl
 case up lv ws e ws' e' r hlv h1 h2 ih1 ih2 =>
  intro ha hl
  obtain ⟨s1,s2⟩:=ma h1
  exact ar5 hlv (ih1 ha hl) (ih2 hlv (λx hx=>ha x (s2 x hx)) (by omega))
 case stop lv e ws ho =>
  intro hlv ha hl
  rw [al0 hlv ha ho,rZ]
 case step lv e w ws f ws' e' r ho h1 h2 ih1 ih2 =>
  intro hlv ha hl
  obtain ⟨s1,s2⟩:=ma h1
  simp at hl
  rw [wa hlv ha ho (ih1 (kT ha) (by omega)),rZ]
  exact ih2 hlv (λx hx=>kT ha x (s2 x hx)) (by omega)
 case done v r hv2 =>
  intro ha hl
  exact ab6 ha hv2
 case first ws e ws' ks r ht h1 h2 ih1 ih2 =>
  intro ha hl
  obtain ⟨s1,s2⟩:=ma h1
  rw [tc ha ht (ih1 ha hl)]
  exact ih2 (by simp) (λx hx=>ha x (s2 x hx)) (by simp;omega)
 case last acc v r hv2 =>
  intro h0 ha hl
  exact ab6 ha hv2
 case more acc v ws e ws' ks r hv2 h1 h2 ih1 ih2 =>
  intro h0 ha hl
  obtain ⟨s1,s2⟩:=ma h1
  simp at hl
  rw [wQ h0 (by omega) ha hv2 (ih1 (kT ha) (by omega))]
  exact ih2 (by simp) (λx hx=>kT ha x (s2 x hx)) (by simp;omega)
def ao4 (lv:Int) (ws:List eu):Prop:=(∀ list n,list.length≤1000→vW list→AtW list n ws→∃ e,fr list (n:Int) lv=some (e,-1))∧∃ e ws',fD ⟨ws,false⟩ lv=some (e,⟨ws',true⟩)
def bl9 (lv : Int) (x : ey) (ws : List eu) : Prop := (∀ list n, list.length ≤ 1000 → vW list → AtW list n ws → ∃ op n_ nm ks, gG (fun (uA : Int × Int × Str × (List ey) × Int) => ((if decide (0 ≤ uA.2.2.2.2) then (iy list uA.2.2.2.2 lv).bind fun uJ => some (decide (0 < uJ)) else some false : Option (Bool)).bind fun uB => if uB then (iy list uA.2.2.2.2 lv).bind fun uC => (fr list (w64 (uA.2.2.2.2 + 1)) (w64 (lv + 1))).bind fun uG => some (.inl (uC, 0, (mkS []), ([(⟨uA.1, uA.2.1, uA.2.2.1, uA.2.2.2.1⟩ : ey), uG.1] : List ey), uG.2)) else some (.inr (uA.1, uA.2.1, uA.2.2.1, uA.2.2.2.1, uA.2.2.2.2)) : Option ((Int × Int × Str × (List ey) × Int) ⊕ (Int × Int × Str × (List ey) × Int)))) (x.op, x.n_, x.name, x.kids, (n : Int)) = some (op, n_, nm, ks, -1)) ∧
 ∃ op n_ nm ks ws',gG (λ(uA:(List eu) × Bool × Int × Int × Str × (List ey))=>(if !(uA.2.1) then ((mZ (λ(uD:Int × fO) (uK:Int)=>((if decide (uD.2.level=lv) then (gD (⟨uA.1,uA.2.1⟩:ez)).bind λuH=>(fN uD.2.sign).bind λuI=>some (decide (uH.kind=uI.kind)&&decide (uH.text=uI.text)) else some false:Option (Bool)).bind λuL=>(if uL then some uD.1 else some uK:Option (Int)).bind λuM=>some uM:Option (Int)).bind λuN=>some uN) (fA:jm fO).es 0).bind (λuO=>some uO):Option (Int)).bind λuB=>if decide (uB=0) then some (.inr (.inl ((⟨uA.2.2.1,uA.2.2.2.1,uA.2.2.2.2.1,uA.2.2.2.2.2⟩:ey),(⟨uA.1,uA.2.1⟩:ez)))) else (fb (⟨uA.1,uA.2.1⟩:ez)).bind λuC=>((fD uC.2 (w64 (lv+1))).bind λuE=>some (uE.2.list,uE.2.bad,([(⟨uA.2.2.1,uA.2.2.2.1,uA.2.2.2.2.1,uA.2.2.2.2.2⟩:ey),uE.1]:List ey)):Option ((List eu) × Bool × (List ey))).bind λuF=>some (.inl (uF.1,uF.2.1,uB,0,(mkS []),uF.2.2)) else some (.inr (.inr (uA.2.2.1,uA.2.2.2.1,uA.2.2.2.2.1,uA.2.2.2.2.2,uA.1,uA.2.1))):Option (((List eu) × Bool × Int × Int × Str × (List ey)) ⊕ ((ey × ez) ⊕ (Int × Int × Str × (List ey) × (List eu) × Bool))))) (ws,false,x.op,x.n_,x.name,x.kids)=some (.inr (op,n_,nm,ks,ws',true))
def bk6 (ws:List eu):Prop:=(∀ list n,list.length≤1000→vW list→AtW list n ws→∃ ks,mM list (n:Int)=some (ks,-1)) ∧
 ∃ ks ws',gG (λ(uA:(List eu) × Bool × (List ey))=>((if !(uA.2.1) then (fJ (⟨uA.1,uA.2.1⟩:ez) 3 (mkS [41])).bind λuC=>some (uC.2.list,uC.2.bad,!(uC.1)) else some (uA.1,uA.2.1,false):Option ((List eu) × Bool × Bool)).bind λuB=>if uB.2.2 then (if decide (0<((uA.2.2.length:Int))) then (fC (⟨uB.1,uB.2.1⟩:ez) 3 (mkS [44])).bind λuE=>some (uE.list,uE.bad) else some (uB.1,uB.2.1):Option ((List eu) × Bool)).bind λuF=>(fD (⟨uF.1,uF.2⟩:ez) 1).bind λuD=>(fq uA.2.2 ([uD.1]:List ey)).bind λuG=>some (.inl (uD.2.list,uD.2.bad,uG)) else some (.inr (uA.2.2,uB.1,uB.2.1)):Option (((List eu) × Bool × (List ey)) ⊕ ((List ey) × (List eu) × Bool)))) (ws,false,[])=some (ks,ws',true)
def bl8 (acc : List ey) (ws : List eu) : Prop := (∀ list n, list.length ≤ 1000 → vW list → AtW list n ws → ∀ q acc0 e, acc = acc0 ++ [e] → acc.length ≤ n → fr list q 1 = some (e, (n : Int)) → ∃ ks, gG (fun (uG : Int × (List ey)) => ((fr list uG.1 1).bind fun uB => (fq uG.2 ([uB.1] : List ey)).bind fun uE => (if decide (uB.2 < 0) then some true else (iG list uB.2 (mkS [41])).bind fun uD => some uD : Option (Bool)).bind fun uJ => if uJ then (jz uB.2).bind fun uK => some (.inr (uE, w64 (uB.2 + uK))) else (iG list uB.2 (mkS [44])).bind fun uL => if !(uL) then some (.inr (uE, -1)) else some (.inl (w64 (uB.2 + 1), uE)) : Option ((Int × (List ey)) ⊕ ((List ey) × Int)))) (q, acc0) = some (ks, -1)) ∧
 ∃ ks ws',gG (λ(uA:(List eu) × Bool × (List ey))=>((if !(uA.2.1) then (fJ (⟨uA.1,uA.2.1⟩:ez) 3 (mkS [41])).bind λuF=>some (uF.2.list,uF.2.bad,!(uF.1)) else some (uA.1,uA.2.1,false):Option ((List eu) × Bool × Bool)).bind λuC=>if uC.2.2 then (if decide (0<((uA.2.2.length:Int))) then (fC (⟨uC.1,uC.2.1⟩:ez) 3 (mkS [44])).bind λuH=>some (uH.list,uH.bad) else some (uC.1,uC.2.1):Option ((List eu) × Bool)).bind λuI=>(fD (⟨uI.1,uI.2⟩:ez) 1).bind λuD=>(fq uA.2.2 ([uD.1]:List ey)).bind λuM=>some (.inl (uD.2.list,uD.2.bad,uM)) else some (.inr (uA.2.2,uC.1,uC.2.1)):Option (((List eu) × Bool × (List ey)) ⊕ ((List ey) × (List eu) × Bool)))) (ws,false,acc)=some (ks,ws',true)
def pn (lv:Int) (ws:List eu):Prop:=(∃ e r,Rd (.E lv ws e r))∨ao4 lv ws
theorem an4:ao4 5 []:=⟨λlist n _ _ ha=>⟨_,by rw [oF];exact af5 ha⟩,⟨_,_,by rw [n0];exact zR⟩⟩
theorem bl6 {lv:Int} (hlv:lv=1∨lv=2∨lv=3∨lv=4):∀ (k:Nat) (ws:List eu),ws.length≤k→vW ws→ws.length≤1000→(∀ ws',ws'.length<ws.length→vW ws'→pn (lv+1) ws')→∀ x,(∃ e r,Rd (.L lv x ws e r))∨bl9 lv x ws:=by
 intro k
 induction k with
 | zero =>
  intro ws hk hv hl ht x
  have:ws=[]:=List.eq_nil_of_length_eq_zero (by omega)
  subst this
  exact .inl ⟨_,_,.stop rfl⟩
 | succ k ih =>
  intro ws hk hv hl ht x
  cases ws with
  | nil=>exact .inl ⟨_,_,.stop rfl⟩
  | cons w ws =>
   simp at hk hl
   by_cases ho:opW lv w=0
   ·exact .inl ⟨_,_,.stop ho⟩
   rcases ht ws (by simp) (kT hv) with ⟨f,r,h1⟩ | ⟨f1,f2⟩
   ·obtain ⟨s1,s2⟩:=ma h1
    have hvr:vW r:=λy hy=>kT hv y (s2 y hy)
    rcases ih r (by omega) hvr (by omega) (λws' h=>ht ws' (by simp;omega)) ⟨opW lv w,0,mkS [],[x,f]⟩ with ⟨e,r',h2⟩ | ⟨f1,f2⟩
    ·exact .inl ⟨_,_,.step ho h1 h2⟩
    ·refine .inr ⟨λlist n hlen hvl ha=>?_,?_⟩
     ·obtain ⟨_,_,h3⟩:=jK ha
      obtain ⟨m,g1,g2,g3⟩:=rG hlen hvl h1 (n+1) h3
      obtain ⟨op,n_,nm,ks,h4⟩:=f1 list m hlen hvl g1
      exact ⟨op,n_,nm,ks,by rw [wW hlen ha hlv ho g3,rZ];exact h4⟩
     ·obtain ⟨op,n_,nm,ks,ws',h4⟩:=f2
      exact ⟨op,n_,nm,ks,ws',by rw [wa hlv hv ho (pD h1 (kT hv) (by omega)),rZ];exact h4⟩
   ·refine .inr ⟨λlist n hlen hvl ha=>?_,?_⟩
    ·obtain ⟨_,_,h3⟩:=jK ha
     obtain ⟨e,h4⟩:=f1 list (n+1) hlen hvl h3
     exact ⟨_,_,_,_,by rw [wW hlen ha hlv ho h4];exact ab2⟩
    ·obtain ⟨e,ws',h4⟩:=f2
     exact ⟨_,_,_,_,ws',by rw [wa hlv hv ho h4];exact x8⟩
theorem qb {lv:Int} (hlv:lv=1∨lv=2∨lv=3∨lv=4) {ws:List eu} (hv:vW ws) (hl:ws.length≤1000) (ht:∀ ws',ws'.length≤ws.length→vW ws'→pn (lv+1) ws'):pn lv ws:=by
 rcases ht ws (Nat.le_refl _) hv with ⟨x,r,h1⟩ | ⟨f1,f2⟩
 ·obtain ⟨s1,s2⟩:=ma h1
  rcases bl6 hlv r.length r (Nat.le_refl _) (λy hy=>hv y (s2 y hy)) (by omega) (λws' h=>ht ws' (by omega)) x with ⟨e,r',h2⟩ | ⟨f1,f2⟩
  ·exact .inl ⟨_,_,.up hlv h1 h2⟩
  ·refine .inr ⟨λlist n hlen hvl ha=>?_,?_⟩
   ·obtain ⟨m,g1,g2,g3⟩:=rG hlen hvl h1 n ha
    obtain ⟨op,n_,nm,ks,h4⟩:=f1 list m hlen hvl g1
    exact ⟨_,by rw [xe hlv,g3,obS,h4];rfl⟩
   ·obtain ⟨op,n_,nm,ks,ws',h4⟩:=f2
    exact ⟨_,ws',w8 hlv (pD h1 hv hl) h4⟩
 ·refine .inr ⟨λlist n hlen hvl ha=>?_,?_⟩
  ·obtain ⟨e,h4⟩:=f1 list n hlen hvl ha
   exact ⟨_,by rw [xe hlv,h4,obS,ab2];rfl⟩
  ·obtain ⟨e,ws',h4⟩:=f2
   exact ⟨_,ws',w8 hlv h4 x8⟩
theorem bj7:∀ (k:Nat) (ws:List eu),ws.length≤k→vW ws→∀ acc,acc≠[]→acc.length+ws.length≤1000→(∀ ws',ws'.length<ws.length→vW ws'→pn 1 ws')→(∃ ks r,Rd (.M acc ws ks r))∨bl8 acc ws:=by
 intro k
 induction k with
 | zero =>
  intro ws hk hv acc h0 hl ht
  have:ws=[]:=List.eq_nil_of_length_eq_zero (by omega)
  subst this
  refine .inr ⟨λlist n hlen hvl ha q acc0 e he hle hr=>?_,zE h0 (by simp at hl;omega) hv rfl rfl⟩
  have hle2:=hle
  rw [he] at hle2
  simp at hle2
  have:=ha.2
  exact ⟨_,by rw [tk hlen (by omega) ha hr];rfl⟩
 | succ k ih =>
  intro ws hk hv acc h0 hl ht
  by_cases c1:isT ws (mkS [41])=true
  ·cases ws with
   | nil=>cases c1
   | cons v ws=>exact .inl ⟨_,_,.last (by simpa [isT] using c1)⟩
  have c1:isT ws (mkS [41])=false:=by simpa using c1
  by_cases c2:isT ws (mkS [44])=true
  ·cases ws with
   | nil=>cases c2
   | cons v ws =>
    have hv2:v.text=mkS [44]:=by simpa [isT] using c2
    simp at hk hl
    rcases ht ws (by simp) (kT hv) with ⟨f,r,h1⟩ | ⟨f1,f2⟩
    ·obtain ⟨s1,s2⟩:=ma h1
     have hvr:vW r:=λy hy=>kT hv y (s2 y hy)
     rcases ih r (by omega) hvr (acc++[f]) (by simp) (by simp;omega) (λws' h=>ht ws' (by simp;omega)) with ⟨ks,r',h2⟩ | ⟨f1,f2⟩
     ·exact .inl ⟨_,_,.more hv2 h1 h2⟩
     ·refine .inr ⟨λlist n hlen hvl ha q acc0 e he hle hr=>?_,?_⟩
      ·obtain ⟨h5,_,h3⟩:=jK ha
       obtain ⟨m,g1,g2,g3⟩:=rG hlen hvl h1 (n+1) h3
       have hle2:=hle
       rw [he] at hle2
       simp at hle2
       obtain ⟨ks,h4⟩:=f1 list m hlen hvl g1 _ acc f rfl (by simp;omega) g3
       exact ⟨ks,by rw [tk hlen (by omega) ha hr,c1,c2,← he];exact h4⟩
      ·obtain ⟨ks,ws',h4⟩:=f2
       exact ⟨ks,ws',by rw [wQ h0 (by omega) hv hv2 (pD h1 (kT hv) (by omega))];exact h4⟩
    ·refine .inr ⟨λlist n hlen hvl ha q acc0 e he hle hr=>?_,?_⟩
     ·obtain ⟨h5,_,h3⟩:=jK ha
      obtain ⟨e2,h4⟩:=f1 list (n+1) hlen hvl h3
      have hle2:=hle
      rw [he] at hle2
      simp at hle2
      exact ⟨_,by rw [tk hlen (by omega) ha hr,c1,c2,← he];exact ac3 (by omega) h4⟩
     ·obtain ⟨e2,ws',h4⟩:=f2
      exact ⟨_,ws',by rw [wQ h0 (by omega) hv hv2 h4];exact xw⟩
  have c2:isT ws (mkS [44])=false:=by simpa using c2
  refine .inr ⟨λlist n hlen hvl ha q acc0 e he hle hr=>?_,zE h0 (by omega) hv c1 c2⟩
  have hle2:=hle
  rw [he] at hle2
  simp at hle2
  have:=ha.2
  exact ⟨_,by rw [tk hlen (by omega) ha hr,c1,c2];rfl⟩
theorem bi2 {ws:List eu} (hv:vW ws) (hl:ws.length≤1000) (ht:∀ ws',ws'.length≤ws.length→vW ws'→pn 1 ws'):(∃ ks r,Rd (.A ws ks r))∨bk6 ws:=by
 by_cases c1:isT ws (mkS [41])=true
 ·cases ws with
  | nil=>cases c1
  | cons v ws=>exact .inl ⟨_,_,.done (by simpa [isT] using c1)⟩
 have c1:isT ws (mkS [41])=false:=by simpa using c1
 rcases ht ws (Nat.le_refl _) hv with ⟨x,r,h1⟩ | ⟨f1,f2⟩
 ·obtain ⟨s1,s2⟩:=ma h1
  rcases bj7 r.length r (Nat.le_refl _) (λy hy=>hv y (s2 y hy)) [x] (by simp) (by simp;omega) (λws' h=>ht ws' (by omega)) with ⟨ks,r',h2⟩ | ⟨f1,f2⟩
  ·exact .inl ⟨_,_,.first c1 h1 h2⟩
  ·refine .inr ⟨λlist n hlen hvl ha=>?_,?_⟩
   ·obtain ⟨m,g1,g2,g3⟩:=rG hlen hvl h1 n ha
    obtain ⟨ks,h4⟩:=f1 list m hlen hvl g1 _ [] x rfl (by simp;omega) g3
    exact ⟨ks,by rw [vl hlen ha,c1];exact h4⟩
   ·obtain ⟨ks,ws',h4⟩:=f2
    exact ⟨ks,ws',by rw [tc hv c1 (pD h1 hv hl)];exact h4⟩
 ·refine .inr ⟨λlist n hlen hvl ha=>?_,?_⟩
  ·obtain ⟨e,h4⟩:=f1 list n hlen hvl ha
   exact ⟨_,by rw [vl hlen ha,c1];exact ac3 (by simp) h4⟩
  ·obtain ⟨e,ws',h4⟩:=f2
   exact ⟨_,ws',by rw [tc hv c1 h4];exact xw⟩
theorem ba9 {ws:List eu} (hv:vW ws) (hl:ws.length≤1000) (h5:∀ ws',ws'.length<ws.length→vW ws'→pn 5 ws') (h1:∀ ws',ws'.length<ws.length→vW ws'→pn 1 ws'):pn 5 ws:=by
 cases ws with
 | nil=>exact .inr an4
 | cons w ws =>
  have h0:=oQ hv
  have hvt:=kT hv
  simp at hl
  by_cases c1:w.text=mkS [33]
  ·rcases h5 ws (by simp) hvt with ⟨e, r, h⟩ | ⟨f1, f2⟩
   ·exact .inl ⟨_,_,.neg c1 h⟩
   ·refine .inr ⟨λlist n hlen hvl ha=>?_,?_⟩
    ·obtain ⟨e,g⟩:=f1 list (n+1) hlen hvl (jK ha).2.2
     rw [oF] at g
     exact ⟨_,by rw [oF,kU hlen ha,if_pos c1,g];rfl⟩
    ·obtain ⟨e,ws',g⟩:=f2
     rw [n0] at g
     exact ⟨_,ws',by rw [n0,kB hv,if_pos c1,g];rfl⟩
  by_cases c2:w.text=mkS [64]
  ·rcases h5 ws (by simp) hvt with ⟨e, r, h⟩ | ⟨f1, f2⟩
   ·exact .inl ⟨_,_,.at_ c2 h⟩
   ·refine .inr ⟨λlist n hlen hvl ha=>?_,?_⟩
    ·obtain ⟨e,g⟩:=f1 list (n+1) hlen hvl (jK ha).2.2
     rw [oF] at g
     exact ⟨_,by rw [oF,kU hlen ha,if_neg c1,if_pos c2,g];rfl⟩
    ·obtain ⟨e,ws',g⟩:=f2
     rw [n0] at g
     exact ⟨_,ws',by rw [n0,kB hv,if_neg c1,if_pos c2,g];rfl⟩
  by_cases c3:w.text=mkS [40]
  ·rcases h1 ws (by simp) hvt with ⟨e, r, h⟩ | ⟨f1, f2⟩
   ·obtain ⟨s1,s2⟩:=ma h
    by_cases c4:isT r (mkS [41])=true
    ·cases r with
     | nil=>cases c4
     | cons v r=>exact .inl ⟨_,_,.par c3 h (by simpa [isT] using c4)⟩
    have c4:isT r (mkS [41])=false:=by simpa using c4
    refine .inr ⟨λlist n hlen hvl ha=>?_,?_⟩
    ·obtain ⟨m,g1,g2,g3⟩:=rG hlen hvl h (n+1) (jK ha).2.2
     have e1:decide ((m:Int)<0)=false:=by simp
     refine ⟨e,?_⟩
     rw [oF,kU hlen ha,if_neg c1,if_neg c2,if_pos c3,g3,obS]
     dsimp only
     rw [e1,tz g1,c4];rfl
    ·refine ⟨e,r,?_⟩
     rw [n0,kB hv,if_neg c1,if_neg c2,if_pos c3,pD h hvt (by omega),obS]
     dsimp only
     rw [pz,qM (λx hx=>hvt x (s2 x hx)) rfl (by decide),c4];rfl
   ·refine .inr ⟨λlist n hlen hvl ha=>?_,?_⟩
    ·obtain ⟨e,g⟩:=f1 list (n+1) hlen hvl (jK ha).2.2
     exact ⟨e,by rw [oF,kU hlen ha,if_neg c1,if_neg c2,if_pos c3,g];rfl⟩
    ·obtain ⟨e,ws',g⟩:=f2
     refine ⟨e,if tkW ws' 3 (mkS [41]) then ws'.tail else ws',?_⟩
     rw [n0,kB hv,if_neg c1,if_neg c2,if_pos c3,g,obS]
     dsimp only
     rw [pz]
     cases tkW ws' 3 (mkS [41])<;>rfl
  by_cases c4:w.kind=2
  ·exact .inl ⟨_,_,.num c4⟩
  by_cases c5:w.kind=1
  ·cases c6:isT ws (mkS [40]) with
   | false=>exact .inl ⟨_,_,.var c5 c6⟩
   | true =>
    cases ws with
    | nil=>cases c6
    | cons v ws =>
     have c7:v.text=mkS [40]:=by simpa [isT] using c6
     simp at hl
     rcases bi2 (kT hvt) (by omega) (λws' h=>h1 ws' (by simp;omega)) with ⟨ks,r,h⟩ | ⟨f1,f2⟩
     ·exact .inl ⟨_,_,.call c5 c7 h⟩
     ·refine .inr ⟨λlist n hlen hvl ha=>?_,?_⟩
      ·obtain ⟨ks,g⟩:=f1 list (n+2) hlen hvl (jK (jK ha).2.2).2.2
       exact ⟨_,by rw [oF,kU hlen ha,if_neg c1,if_neg c2,if_neg c3,if_neg c4,if_neg (by omega),if_neg (by rw [c6];decide),g];rfl⟩
      ·obtain ⟨ks,ws',g⟩:=f2
       exact ⟨_,ws',by rw [n0,kB hv,if_neg c1,if_neg c2,if_neg c3,if_neg c4,if_neg (by omega),if_neg (by rw [c6];decide),List.tail_cons,g];rfl⟩
  ·refine .inr ⟨λlist n hlen hvl ha=>⟨_,by rw [oF,kU hlen ha,if_neg c1,if_neg c2,if_neg c3,if_neg c4,if_pos c5]⟩,⟨_,ws,by rw [n0,kB hv,if_neg c1,if_neg c2,if_neg c3,if_neg c4,if_pos c5]⟩⟩
theorem av5:∀ (k:Nat) (ws:List eu),ws.length≤k→ws.length≤1000→vW ws→∀ lv:Int,(lv=1∨lv=2∨lv=3∨lv=4∨lv=5)→pn lv ws:=by
 intro k
 induction k with
 | zero =>
  intro ws hk hl hv
  have h5:∀ ws':List eu,ws'.length≤ws.length→vW ws'→pn 5 ws':=λws' h hv'=>ba9 hv' (by omega) (λ_ h=>by omega) (λ_ h=>by omega)
  have h4:∀ ws':List eu,ws'.length≤ws.length→vW ws'→pn 4 ws':=λws' h hv'=>qb (by omega) hv' (by omega) λx hx=>h5 x (by omega)
  have h3:∀ ws':List eu,ws'.length≤ws.length→vW ws'→pn 3 ws':=λws' h hv'=>qb (by omega) hv' (by omega) λx hx=>h4 x (by omega)
  have h2:∀ ws':List eu,ws'.length≤ws.length→vW ws'→pn 2 ws':=λws' h hv'=>qb (by omega) hv' (by omega) λx hx=>h3 x (by omega)
  have h1:∀ ws':List eu,ws'.length≤ws.length→vW ws'→pn 1 ws':=λws' h hv'=>qb (by omega) hv' (by omega) λx hx=>h2 x (by omega)
  rintro lv (rfl | rfl | rfl | rfl | rfl)
  ·exact h1 ws (Nat.le_refl _) hv
  ·exact h2 ws (Nat.le_refl _) hv
  ·exact h3 ws (Nat.le_refl _) hv
  ·exact h4 ws (Nat.le_refl _) hv
  ·exact h5 ws (Nat.le_refl _) hv
 | succ k ih =>
  intro ws hk hl hv
  have h5:∀ ws':List eu,ws'.length≤ws.length→vW ws'→pn 5 ws':=λws' h hv'=>ba9 hv' (by omega) (λx hx hvx=>ih x (by omega) (by omega) hvx 5 (by omega)) (λx hx hvx=>ih x (by omega) (by omega) hvx 1 (by omega))
  have h4:∀ ws':List eu,ws'.length≤ws.length→vW ws'→pn 4 ws':=λws' h hv'=>qb (by omega) hv' (by omega) λx hx=>h5 x (by omega)
  have h3:∀ ws':List eu,ws'.length≤ws.length→vW ws'→pn 3 ws':=λws' h hv'=>qb (by omega) hv' (by omega) λx hx=>h4 x (by omega)
  have h2:∀ ws':List eu,ws'.length≤ws.length→vW ws'→pn 2 ws':=λws' h hv'=>qb (by omega) hv' (by omega) λx hx=>h3 x (by omega)
  have h1:∀ ws':List eu,ws'.length≤ws.length→vW ws'→pn 1 ws':=λws' h hv'=>qb (by omega) hv' (by omega) λx hx=>h2 x (by omega)
  rintro lv (rfl | rfl | rfl | rfl | rfl)
  ·exact h1 ws (Nat.le_refl _) hv
  ·exact h2 ws (Nat.le_refl _) hv
  ·exact h3 ws (Nat.le_refl _) hv
  ·exact h4 ws (Nat.le_refl _) hv
  ·exact h5 ws (Nat.le_refl _) hv
end Prg
end Go.Wk
namespace Go.Wk
open Go
namespace Prg
set_option maxRecDepth 10000
theorem ah1:∀ (k:Nat) (l:List UInt8),l.length≤k→∀ ws,tok l=some ws→vW ws:=by
 intro k
 induction k with
 | zero =>
  intro l hl ws h
  have:l=[]:=List.eq_nil_of_length_eq_zero (by omega)
  subst this
  rw [qK] at h
  cases h
  exact λw hw=>by cases hw
 | succ k ih =>
  intro l hl ws h
  cases l with
  | nil =>
   rw [qK] at h
   cases h
   exact λw hw=>by cases hw
  | cons c r =>
   rw [pg] at h
   simp at hl
   by_cases h1:sU c=true
   ·rw [if_pos h1] at h
    exact ih r hl ws h
   rw [if_neg h1] at h
   by_cases h2:k7 (pZ c (r.takeWhile (jd c)))=true
   ·rw [if_pos h2] at h
    obtain ⟨ws',h3,h4⟩:=Option.map_eq_some_iff.1 h
    have:=ih _ (Nat.le_trans (qx _ _) hl) ws' h3
    subst h4
    intro w hw
    rcases List.mem_cons.1 hw with rfl | hw
    ·exact h2
    ·exact this w hw
   ·rw [if_neg h2] at h;cases h
theorem rf {s:Str} {ws:List eu} (h:rX s=some ws):vW ws∧ws.length≤600:=by
 unfold rX at h
 split at h
 ·rw [Option.filter_eq_some_iff,decide_eq_true_iff] at h
  exact ⟨ah1 _ _ (Nat.le_refl _) _ h.1,h.2⟩
 ·cases h
def noE:ey:=⟨0,0,mkS [],[]⟩
theorem az9 (ws:List eu):AtW ws 0 ws:=⟨rfl,Nat.zero_le _⟩
theorem oX {s:Str} {ws:List eu} (h:rX s=some ws):zC s=(ws,true):=by unfold zC;rw [h]
theorem xU {s:Str} (h:rX s=none):zC s=([],false):=by unfold zC;rw [h]
end Prg
end Go.Wk
namespace Go.Wk
open Go
namespace Prg
set_option maxRecDepth 10000
end Prg
end Go.Wk
namespace Go.Wk
open Go
namespace Prg
set_option maxRecDepth 10000
def xE (n:Int):Str:=(xK n).getD (mkS [])
theorem ad2 (n:Nat):mY (48+((n % 10:Nat):Int))=UInt8.ofNat (48+n % 10):=by
 unfold mY
 congr 1
 omega
theorem yQ:∀ n:Nat,n<1000→(Lib.decDigits n).length≤3:=by
 intro n h
 rw [Lib.decDigits]
 split
 ·simp
 ·rw [Lib.decDigits]
  split
  ·simp
  ·rw [Lib.decDigits]
   split
   ·simp
   ·omega
theorem uz {n:Nat} (h:n<1000):strconv_Itoa (n:Int)=some (xE n)∧(xE n).b=Lib.decDigits n:=by
 have hl:=yQ n h
 have hi:Lib.itoa (n:Int)=Lib.decDigits n:=by unfold Lib.itoa;rw [if_neg (by omega)];simp
 have:xK (n:Int)=some ⟨Lib.decDigits n,by omega⟩:=by
  unfold xK
  have h1:(Lib.itoa (n:Int)).length≤140737488355328:=by rw [hi];omega
  rw [dif_pos h1,if_pos ⟨by omega,by omega⟩]
  simp only [hi]
 constructor
 ·unfold strconv_Itoa xE;rw [this];rfl
 ·unfold xE;rw [this];rfl
theorem al7:∀ (n:Nat) (s:Str),n≤100000→s.b.length+n≤200000→∃ (m:Nat) (t:Str),gG (λ(uA:Int × Str)=>(if decide (9<uA.1) then (iE (uh ([(mY (w64 (48+(uA.1.tmod 10))))]:List UInt8)) uA.2).bind λuB=>some (.inl (w64 (uA.1.tdiv 10),uB)) else some (.inr (uA.1,uA.2)):Option ((Int × Str) ⊕ (Int × Str)))) ((n:Int),s)=some ((m:Int),t)∧m≤9∧UInt8.ofNat (48+m)::t.b=Lib.decDigits n++s.b∧t.b.length≤s.b.length+n:=by
 intro n
 induction n using Nat.strongRecOn with
 | ind n ih =>
  intro s hn hs
  by_cases h0:n≤9
  ·refine ⟨n, s, gH ?_, h0, ?_, by omega⟩
   ·have e1 : decide (9 < (n : Int)) = false := by simp; omega
    dsimp only
    rw [e1];rfl
   ·rw [Lib.decDigits,dif_pos (by omega)];rfl
  ·have e1 : decide (9 < (n : Int)) = true := by simp; omega
   have e2:w64 ((n:Int).tdiv 10)=((n / 10:Nat):Int):=by
    have:(n:Int).tdiv 10=((n / 10:Nat):Int):=by rw [Int.tdiv_eq_ediv_of_nonneg (by omega)];omega
    rw [this,hO (by omega) (by omega)]
   have e3:w64 (48+(n:Int).tmod 10)=48+((n % 10:Nat):Int):=by
    have:(n:Int).tmod 10=((n % 10:Nat):Int):=by rw [Int.tmod_eq_emod_of_nonneg (by omega)];omega
    rw [this,hO (by omega) (by omega)]
   have hc:(uh [mY (48+((n % 10:Nat):Int))]).b=[UInt8.ofNat (48+n % 10)]:=by rw [zY (by simp),ad2]
   generalize hg:uh [mY (48+((n % 10:Nat):Int))]=c at hc
   have hc1:c.b.length=1:=by rw [hc];rfl
   obtain ⟨t,ht,ht2⟩:∃ t,iE c s=some t∧t.b=c.b++s.b:=by
    refine ⟨⟨c.b++s.b,by simp;omega⟩,fX.2 ⟨by omega,rfl⟩,rfl⟩
   have ht3:t.b.length=s.b.length+1:=by rw [ht2];simp;omega
   obtain ⟨m,u,h1,h2,h3,h4⟩:=ih (n / 10) (by omega) t (by omega) (by omega)
   refine ⟨m,u,?_,h2,?_,by omega⟩
   ·rw [iz (s':=(((n / 10:Nat):Int),t))]
    ·exact h1
    ·dsimp only
     rw [if_pos e1,e3,hg,ht,obS,e2]
   ·rw [h3,ht2,hc]
    conv=>rhs;rw [Lib.decDigits,dif_neg (by omega)]
    simp
theorem xM {n:Nat} (h:n<1000):lX (n:Int)=some (xE n):=by
 rw [lX]
 have e1:decide ((n:Int) < -9223372036854775807)=false:=decide_eq_false (by omega)
 have e2:decide ((n:Int)<0)=false:=by simp
 rw [e1,e2]
 simp only [Bool.false_eq_true,if_false]
 obtain ⟨m,t,h1,h2,h3,h4⟩:=al7 n (mkS []) (by omega) (by show 0+n≤_;omega)
 rw [h1]
 simp only [obS]
 have e3:w64 (48+(m:Int))=48+((m % 10:Nat):Int):=by rw [hO (by omega) (by omega)];omega
 have e4:m % 10=m:=by omega
 have hc:(uh [mY (w64 (48+(m:Int)))]).b=[UInt8.ofNat (48+m)]:=by rw [zY (by simp),e3,ad2,e4]
 have h5:t.b.length≤n:=by simpa [mkS] using h4
 have:iE (uh [mY (w64 (48+(m:Int)))]) t=some (xE n):=by
  refine fX.2 ⟨by rw [hc];simp;omega,?_⟩
  rw [(uz h).2,hc]
  exact ((List.append_nil _).symm.trans h3.symm)
 rw [this];rfl
theorem zL:∀ n:Nat,(Lib.decDigits n).all jn=true:=by
 intro n
 induction n using Nat.strongRecOn with
 | ind n ih =>
  have hd:∀ k:Nat,k<10→jn (UInt8.ofNat (48+k))=true:=by
   intro k hk
   rw [np]
   have:(UInt8.ofNat (48+k)).toNat=48+k:=by rw [UInt8.toNat_ofNat'];omega
   omega
  rw [Lib.decDigits]
  split
  ·rw [List.all_cons,hd n (by omega)];rfl
  ·rw [List.all_append,ih (n / 10) (by omega),List.all_cons,hd (n % 10) (by omega)];rfl
theorem yf:∀ n:Nat,vD 0 (Lib.decDigits n)=n:=by
 intro n
 induction n using Nat.strongRecOn with
 | ind n ih =>
  have hd:∀ k:Nat,k<10→(UInt8.ofNat (48+k)).toNat - 48=k:=by
   intro k hk
   have:(UInt8.ofNat (48+k)).toNat=48+k:=by rw [UInt8.toNat_ofNat'];omega
   omega
  rw [Lib.decDigits]
  split
  ·show 0 * 10 + ((UInt8.ofNat (48 + n)).toNat - 48) = n
   rw [hd n (by omega)];omega
  ·rw [af2,ih (n / 10) (by omega),hd (n % 10) (by omega)];omega
theorem ag8:∀ n:Nat,0<n→(Lib.decDigits n)[0]?≠some 48:=by
 intro n
 induction n using Nat.strongRecOn with
 | ind n ih =>
  intro h0
  rw [Lib.decDigits]
  split
  ·intro h
   have this:=congrArg UInt8.toNat (Option.some.inj h)
   rw [UInt8.toNat_ofNat'] at this
   have h48:(48:UInt8).toNat=48:=rfl
   omega
  ·have h1 := ih (n / 10) (by omega) (by omega)
   cases hd:Lib.decDigits (n / 10) with
   | nil =>
    rw [Lib.decDigits] at hd
    split at hd<;>simp at hd
   | cons a l=>rw [hd] at h1;simpa using h1
theorem ax8 (n:Nat):Lib.decDigits n≠[]:=by
 rw [Lib.decDigits];split<;>simp
theorem ai3 {n:Nat} (h:n≤255):mR (xE n)=n:=by
 have hz:qT (Lib.decDigits n)=false:=by
  unfold qT
  by_cases h0:n=0
  ·subst h0
   have:Lib.decDigits 0=[48]:=by rw [Lib.decDigits];rfl
   rw [this];rfl
  ·have := ag8 n (by omega)
   simp [this]
 unfold mR
 rw [(uz (by omega)).2,if_pos ⟨ax8 n,zL n,hz,by rw [yf];exact h⟩,yf]
def txt (ws:List eu):List UInt8:=Lib.join (ws.map (λw=>w.text.b)) [32]
theorem au0:txt []=[]:=rfl
theorem lA (w:eu):txt [w]=w.text.b:=Lib.join_one _ _
theorem iv {w:eu} {ws:List eu} (h:ws≠[]):txt (w::ws)=w.text.b++32::txt ws:=by
 obtain ⟨v,r,rfl⟩:∃ v r,ws=v::r:=by cases ws with | nil=>exact absurd rfl h | cons v r=>exact ⟨v,r,rfl⟩
 unfold txt
 rw [List.map_cons,List.map_cons,Lib.join_cons,Lib.join_cons]
 simp [Lib.joinTail]
theorem kD:∀ {a b:List eu},a≠[]→b≠[]→txt (a++b)=txt a++32::txt b
 | [],_,h,_=>absurd rfl h
 | [w],b,_,hb=>by rw [List.cons_append,List.nil_append,iv hb,lA]
 | w::v::r,b,_,hb=>by
  rw [List.cons_append,iv (by simp),kD (a:=v::r) (by simp) hb,iv (w:=w) (ws:=v::r) (by simp)]
  simp
theorem rB {p:UInt8→Bool}:∀ {l:List UInt8},l.all p=true→l.takeWhile p=l
 | [],_=>rfl
 | a::l,h=>by
  rw [List.all_cons,Bool.and_eq_true] at h
  rw [List.takeWhile_cons,if_pos h.1,rB h.2]
theorem ax6 {s:Str} (h:ov s=true):s.b≠[]∧s.b.all kH=true∧s.b.length≤4:=by
 have hm:s∈fP:=of_decide_eq_true h
 have key:∀ k∈fP,k.b≠[]∧k.b.all kH=true∧k.b.length≤4:=by
  intro k hk
  unfold fP at hk
  simp only [List.mem_cons,List.not_mem_nil,or_false] at hk
  rcases hk with rfl | rfl | rfl | rfl | rfl | rfl | rfl | rfl | rfl<;>exact ⟨by decide,by decide,by decide⟩
 exact key s hm
theorem vj {c:UInt8} (h:kH c=true∨jn c=true∨c∈nP):sU c=false:=by
 have key:kH 32=false∧jn 32=false∧(32:UInt8) ∉ nP∧kH 10=false∧jn 10=false∧(10:UInt8) ∉ nP:=by decide
 obtain ⟨k1,k2,k3,k4,k5,k6⟩:=key
 unfold sU
 rw [decide_eq_false_iff_not]
 rintro (rfl | rfl)
 ·rcases h with h | h | h
  ·rw [k1] at h;cases h
  ·rw [k2] at h;cases h
  ·exact k3 h
 ·rcases h with h | h | h
  ·rw [k4] at h;cases h
  ·rw [k5] at h;cases h
  ·exact k6 h
theorem yO {w:eu} (h:k7 w=true):∃ c l,w.text.b=c::l∧sU c=false∧l.takeWhile (jd c)=l∧pZ c l=w∧w.text.b.length≤4:=by
 obtain ⟨kind,s⟩:=w
 have hb:∀ {c l},s.b=c::l→pZ c l=⟨pf c s,s⟩:=λ{c l} e=>by unfold pZ;rw [← e,be6]
 unfold k7 at h
 dsimp only at h ⊢
 by_cases h1:kind=1
 ·rw [if_pos h1] at h
  unfold ic at h
  simp only [Bool.and_eq_true,decide_eq_true_iff,Bool.not_eq_true'] at h
  obtain ⟨⟨⟨g1,g2⟩,g3⟩,g4⟩:=h
  obtain ⟨c,l,hc⟩:∃ c l,s.b=c::l:=by cases hs:s.b with | nil=>exact absurd hs g1 | cons c l=>exact ⟨c,l,rfl⟩
  rw [hc,List.all_cons,Bool.and_eq_true] at g2
  refine ⟨c,l,hc,vj (.inl g2.1),rB ?_,?_,g3⟩
  ·have : jd c = kH := by funext x; unfold jd; rw [g2.1]; rfl
   rw [this];exact g2.2
  ·rw [hb hc,h1]
   unfold pf
   rw [g4,g2.1];rfl
 rw [if_neg h1] at h
 by_cases h2:kind=2
 ·rw [if_pos h2,decide_eq_true_iff] at h
  have hI:s.b≠[]∧s.b.all jn=true∧qT s.b=false∧vD 0 s.b≤255:=by
   unfold mR at h
   split at h
   ·rename_i h';exact h'
   ·omega
  obtain ⟨g1,g2,g3,g4⟩:=hI
  have hlen:s.b.length≤4:=by
   rcases Nat.lt_or_ge s.b.length 4 with h' | h'
   ·omega
   ·have:=w6 g3 g2 h';omega
  obtain ⟨c,l,hc⟩:∃ c l,s.b=c::l:=by cases hs:s.b with | nil=>exact absurd hs g1 | cons c l=>exact ⟨c,l,rfl⟩
  rw [hc,List.all_cons,Bool.and_eq_true] at g2
  have hlet:kH c=false:=by
   cases hl:kH c with
   | false=>rfl
   | true=>rw [ve hl] at g2;cases g2.1
  have hk:ov s=false:=by
   cases hk:ov s with
   | false=>rfl
   | true=>rw [sF hc hk] at hlet;cases hlet
  refine ⟨c,l,hc,vj (.inr (.inl g2.1)),rB ?_,?_,hlen⟩
  ·have : jd c = jn := by funext x; unfold jd; rw [hlet, g2.1]; rfl
   rw [this];exact g2.2
  ·rw [hb hc,h2]
   unfold pf
   rw [hk,hlet,g2.1];rfl
 rw [if_neg h2] at h
 by_cases h3:kind=3
 ·rw [if_pos h3] at h
  match hs:s.b,h with
  | [c],h =>
   have hcm:c∈nP:=of_decide_eq_true h
   have hcl:kH c=false∧jn c=false:=by
    have key:∀ c∈nP,kH c=false∧jn c=false:=by decide
    exact key c hcm
   have hk:ov s=false:=by
    cases hk:ov s with
    | false=>rfl
    | true=>have:=sF hs hk;rw [hcl.1] at this;cases this
   refine ⟨c,[],rfl,vj (.inr (.inr hcm)),rfl,?_,by simp⟩
   rw [hb hs,h3]
   unfold pf
   rw [hk,hcl.1,hcl.2];rfl
 rw [if_neg h3] at h
 by_cases h4:kind=4
 ·rw [if_pos h4] at h
  obtain ⟨g1,g2,g3⟩:=ax6 h
  obtain ⟨c,l,hc⟩:∃ c l,s.b=c::l:=by cases hs:s.b with | nil=>exact absurd hs g1 | cons c l=>exact ⟨c,l,rfl⟩
  rw [hc,List.all_cons,Bool.and_eq_true] at g2
  refine ⟨c,l,hc,vj (.inl g2.1),rB ?_,?_,g3⟩
  ·have : jd c = kH := by funext x; unfold jd; rw [g2.1]; rfl
   rw [this];exact g2.2
  ·rw [hb hc,h4]
   unfold pf
   rw [h];rfl
 ·rw [if_neg h4] at h;cases h
theorem ax1 (c:UInt8):jd c 32=false:=by
 have:kH 32=false∧jn 32=false:=by decide
 unfold jd
 rw [this.1,this.2]
 cases kH c<;>cases jn c<;>rfl
theorem pq:∀ (ws:List eu),vW ws→(txt ws).length≤5*ws.length
 | [],_=>by rw [au0];simp
 | [w],h=>by
  obtain ⟨c,l,h1,h2,h3,h4,h5⟩:=yO (oQ h)
  rw [lA];simp;omega
 | w::v::r,h=>by
  obtain ⟨c,l,h1,h2,h3,h4,h5⟩:=yO (oQ h)
  have:=pq (v::r) (kT h)
  rw [iv (by simp)]
  simp at this ⊢
  omega
end Prg
end Go.Wk
namespace Go.Wk
open Go
namespace Prg
set_option maxRecDepth 10000
def pL:eu:=⟨3,mkS [40]⟩
def pR:eu:=⟨3,mkS [41]⟩
def cM:eu:=⟨3,mkS [44]⟩
def sgS (op:Int):Str:=if op=3 then mkS [43] else if op=4 then mkS [45] else if op=5 then mkS [42] else if op=6 then mkS [47] else if op=7 then mkS [37] else if op=8 then mkS [60] else if op=9 then mkS [61] else if op=10 then mkS [38] else if op=11 then mkS [33] else mkS [64]
def sgW (op:Int):eu:=⟨3,sgS op⟩
def aW:List (List eu)→List eu
 | []=>[]
 | x::r=>x++(r.map (cM::·)).flatten
def kid (e:ey) (i:Nat):ey:=(e.kids[i]?).getD noE
def brW (b:Bool) (ws:List eu):List eu:=if b then pL::(ws++[pR]) else ws
def wE:Nat→ey→List eu
 | 0,_=>[]
 | d+1,e =>
  if e.op=1 then [⟨2,xE e.n_⟩]
  else if e.op=2 then [⟨1,e.name⟩]
  else if e.op=13 then ⟨1,e.name⟩::pL::(aW (e.kids.map (wE d))++[pR])
  else if e.op=11∨e.op=12 then sgW e.op::brW (decide (lvI (kid e 0).op<5)) (wE d (kid e 0))
  else brW (decide (lvI (kid e 0).op<lvI e.op)) (wE d (kid e 0))++sgW e.op::brW (decide (lvI (kid e 1).op≤lvI e.op)) (wE d (kid e 1))
theorem vn (l:List (List eu)) (x:List eu):aW (l++[x])=if l=[] then x else aW l++cM::x:=by
 cases l with
 | nil=>simp [aW]
 | cons y l=>simp [aW]
theorem ae2 {op:Int} (h:inB op 1 13=true):(op=1∨op=2∨op=13)∧lvI op=6∨(op=11∨op=12)∧lvI op=5∨(3≤op∧op≤10)∧(lvI op=1∨lvI op=2∨lvI op=3∨lvI op=4):=by
 rcases ye h with rfl | rfl | rfl | rfl | rfl | rfl | rfl | rfl | rfl | rfl | rfl | rfl | rfl<;>simp [lvI]
theorem ax7 {op:Int} (h:3≤op∧op≤10):((jm.get fA op).getD (⟨mkS [],0⟩:fO)).sign=sgS op:=by
 have:op=3∨op=4∨op=5∨op=6∨op=7∨op=8∨op=9∨op=10:=by omega
 rcases this with rfl | rfl | rfl | rfl | rfl | rfl | rfl | rfl<;>rfl
theorem zM {op:Int} (h:3≤op∧op≤12):iw op=some (sgS op):=by
 have:op=3∨op=4∨op=5∨op=6∨op=7∨op=8∨op=9∨op=10∨op=11∨op=12:=by omega
 rcases this with rfl | rfl | rfl | rfl | rfl | rfl | rfl | rfl | rfl | rfl<;>rfl
theorem pa {e:ey} (h:oP e=true):inB e.op 1 13=true∧(e.op=1→0≤e.n_∧e.n_≤255)∧(e.op=1∨e.n_=0)∧((e.op=2∨e.op=13)→ic e.name=true)∧(¬ (e.op=2∨e.op=13)→e.name=mkS []) ∧
  ((e.op=1∨e.op=2)→e.kids=[])∧((e.op=11∨e.op=12)→∃ a,e.kids=[a])∧((3≤e.op∧e.op≤10)→∃ a b,e.kids=[a,b])∧e.kids.length≤3:=by
 have hk3:=tG h
 unfold oP at h
 simp only [Bool.and_eq_true,decide_eq_true_iff] at h
 obtain ⟨h1,h2,h3,h4,h5⟩:=h
 have h4':=kQ.1 h4
 have h2':=kQ.1 h2
 refine ⟨h1,λ_=>h4',h5,λhc=>?_,λhc=>?_,λhc=>?_,λhc=>?_,λhc=>?_,hk3⟩
 ·rw [if_pos hc] at h3;exact h3
 ·rw [if_neg hc,decide_eq_true_iff] at h3;exact h3
 ·have : mq e.op = (0, 0) := by unfold mq; rw [if_pos hc]
  rw [this] at h2'
  exact List.eq_nil_of_length_eq_zero (by have:=h2'.2;dsimp only at this;omega)
 ·have : mq e.op = (1, 1) := by unfold mq; rw [if_neg (by omega), if_pos hc]
  rw [this] at h2'
  match hk:e.kids,h2' with
  | [a],_=>exact ⟨a,rfl⟩
  | [],h=>simp at h
  | _::_::_,h=>simp at h;omega
 ·have : mq e.op = (2, 2) := by unfold mq; rw [if_neg (by omega), if_neg (by omega), if_neg (by omega)]
  rw [this] at h2'
  match hk:e.kids,h2' with
  | [a,b],_=>exact ⟨a,b,rfl⟩
  | [],h=>simp at h
  | [_],h=>simp at h
  | _::_::_::_,h=>simp at h;omega
theorem rU:∀ {d:Nat} {e:ey},iC d e=true→wE d e≠[]:=by
 intro d e h
 cases d with
 | zero=>rw [iC] at h;cases h
 | succ d =>
  rw [wE]
  repeat' split
  all_goals simp
theorem zy {b:Bool} {ws:List eu} (h:ws≠[]):brW b ws≠[]:=by
 unfold brW;split
 ·simp
 ·exact h
theorem xl (b:Bool) (ws:List eu):(brW b ws).length≤ws.length+2:=by
 unfold brW;split<;>simp
theorem aq4:∀ l:List (List eu),(aW l).length≤(l.map List.length).sum+l.length
 | []=>by simp [aW]
 | x::r=>by
  have:∀ r:List (List eu),((r.map (cM::·)).flatten).length=(r.map List.length).sum+r.length:=by
   intro r
   induction r with
   | nil=>rfl
   | cons y r ih=>simp at ih ⊢;omega
  simp only [aW,List.length_append,this,List.map_cons,List.sum_cons,List.length_cons]
  omega
theorem ay5 (a b:List (List eu)):(aW a).length≤(aW (a++b)).length:=by
 cases a with
 | nil=>simp [aW]
 | cons x r=>simp [aW]
theorem rn:∀ {d:Nat} {e:ey},iC d e=true→(wE d e).length+3≤6*iW e
 | 0,e,h=>by rw [iC] at h;cases h
 | d+1,e,h=>by
  obtain ⟨h1,h2⟩:=nE h
  obtain ⟨i1,_,_,_,_,i6,i7,i8,i9⟩:=pa h1
  rw [kv,wE]
  by_cases c1:e.op=1
  ·rw [if_pos c1];simp;omega
  rw [if_neg c1]
  by_cases c2:e.op=2
  ·rw [if_pos c2];simp;omega
  rw [if_neg c2]
  by_cases c3:e.op=13
  ·rw [if_pos c3]
   have h4:=aq4 (e.kids.map (wE d))
   have h5:∀ ks:List ey,(∀ k∈ks,iC d k=true)→((ks.map (wE d)).map List.length).sum+3*ks.length≤6*jC ks:=by
    intro ks
    induction ks with
    | nil=>intro _;simp
    | cons k ks ih =>
     intro hk
     have g1:=rn (hk k (by simp))
     have g2:=ih λx hx=>hk x (by simp [hx])
     rw [il]
     simp at g2 ⊢
     omega
   have h6:=h5 e.kids h2
   simp at h4 ⊢
   simp at h6
   omega
  rw [if_neg c3]
  by_cases c4:e.op=11∨e.op=12
  ·rw [if_pos c4]
   obtain ⟨a,ha⟩:=i7 c4
   have hk:kid e 0=a:=by unfold kid;rw [ha];rfl
   have g1:=rn (h2 a (by rw [ha];simp))
   have g2:=xl (decide (lvI a.op<5)) (wE d a)
   rw [hk,ha,il,jj]
   simp
   omega
  ·rw [if_neg c4]
   rw [kQ] at i1
   obtain ⟨a,b,ha⟩:=i8 (by omega)
   have hk:kid e 0=a:=by unfold kid;rw [ha];rfl
   have hk1:kid e 1=b:=by unfold kid;rw [ha];rfl
   have g1:=rn (h2 a (by rw [ha];simp))
   have g2:=xl (decide (lvI a.op<lvI e.op)) (wE d a)
   have g3:=rn (h2 b (by rw [ha];simp))
   have g4:=xl (decide (lvI b.op≤lvI e.op)) (wE d b)
   rw [hk,hk1,ha,il,il,jj]
   simp
   omega
theorem aj0:∀ (d:Nat) (e:ey) (list:List eu) (around:Bool),iC d e=true→list.length+(wE d e).length+2*d+2≤100000→iB list e around=some (list++brW around (wE d e)):=by
 intro d
 induction d with
 | zero=>intro e list around h;rw [iC] at h;cases h
 | succ d ih =>
  intro e list around h hl
  have key:∀ list:List eu,list.length+(wE (d+1) e).length+2*d+2≤100000→iB list e false=some (list++wE (d+1) e):=by
   intro list hl
   obtain ⟨h1,h2⟩:=nE h
   obtain ⟨i1,i2,_,_,_,i6,i7,i8,i9⟩:=pa h1
   rw [iB]
   simp only [Bool.false_eq_true,if_false,rb,gp,fN,obS,decide_eq_true_eq]
   have hwe:=hl
   rw [wE] at hwe ⊢
   by_cases c1:e.op=1
   ·rw [if_pos c1]
    rw [if_pos c1] at hwe ⊢
    obtain ⟨n,hn⟩:∃ n:Nat,e.n_=n:=⟨e.n_.toNat,by have:=i2 c1;omega⟩
    have hn2:=i2 c1
    rw [hn,(uz (by omega)).1,obS,jH (by simp at hwe ⊢;omega)];rfl
   rw [if_neg c1] at hwe ⊢
   rw [if_neg c1]
   by_cases c2:e.op=2
   ·rw [if_pos c2,if_pos c2] at *
    rw [jH (by simp at hwe ⊢;omega)];rfl
   rw [if_neg c2] at hwe ⊢
   rw [if_neg c2]
   by_cases c3:e.op=13
   ·rw [if_pos c3] at hwe ⊢
    rw [if_pos c3,jH (by simp at hwe ⊢;omega),obS]
    simp at hwe
    rcases jI (xs := e.kids) (body := (fun (uA : Int) (uB : (List eu)) => ((fW e.kids uA).bind fun uC => (if decide (0 < uA) then (fN (mkS [44])).bind fun uD => (fq uB ([uD] : List eu)).bind fun uE => some uE else some uB : Option ((List eu))).bind fun uF => (iB uF uC false).bind fun uG => some (.inl uG) : Option (((List eu)) ⊕ (Empty))))) (s := list ++ [⟨1, e.name⟩, ⟨3, mkS [40]⟩]) (fun l s => s = list ++ ⟨1, e.name⟩ :: pL :: aW (l.map (wE d))) (fun _ => False) rfl (fun l x r s hx hI => .inl (by
     have hmo:=ay5 ((l++[x]).map (wE d)) (r.map (wE d))
     rw [← List.map_append,List.append_assoc,List.singleton_append,← hx,List.map_append,List.map_cons,List.map_nil,vn] at hmo
     have hfx:=h2 x (by rw [hx];simp)
     have hg:fW e.kids (l.length:Int)=some x:=by rw [hx,iO]
     subst hI
     by_cases hl0:l=[]
     ·subst hl0
      have e0:decide (0<(([]:List ey).length:Int))=false:=rfl
      simp at hmo
      refine ⟨_,?_,rfl⟩
      rw [hg,e0,obS]
      simp only [Bool.false_eq_true,if_false,obS]
      rw [ih x _ false hfx (by simp [aW];omega)]
      simp [aW,brW]
     ·have e0 : decide (0 < (l.length : Int)) = true := by have := List.length_pos_iff.2 hl0; simp; omega
      have hl1:l.map (wE d)≠[]:=by simpa using hl0
      rw [if_neg hl1] at hmo
      simp at hmo
      refine ⟨_,?_,rfl⟩
      rw [hg,e0,obS]
      simp only [if_true,fN,obS]
      rw [jH (by simp;omega),obS,obS,ih x _ false hfx (by simp;omega)]
      rw [List.map_append,List.map_cons,List.map_nil,vn,if_neg hl1]
      simp [brW,cM])) with ⟨s,h3,h4⟩ | ⟨y,_,h4⟩
    ·simp only [Bool.false_eq_true,if_false,rb,gp,fN,obS,decide_eq_true_eq] at h3
     rw [h3,h4]
     simp only [obS,Sum.elim_inl]
     rw [jH (by simp;omega)]
     simp [pR,obS]
    ·exact h4.elim
   rw [if_neg c3] at hwe ⊢
   rw [if_neg c3]
   by_cases c4:e.op=11∨e.op=12
   ·obtain ⟨a,ha⟩:=i7 c4
    have hk:kid e 0=a:=by unfold kid;rw [ha];rfl
    have hlv:lvI e.op=5:=by rcases c4 with h | h<;>rw [h]<;>rfl
    have hsg:(if decide (e.op=12) then some (mkS [64]) else some (mkS [33]):Option Str)=some (sgS e.op):=by rcases c4 with h | h<;>rw [h]<;>rfl
    have hg:fW e.kids 0=some a:=by rw [ha];rfl
    rw [if_pos c4,hk] at hwe ⊢
    have hb:=h2 a (by rw [ha];simp)
    have hbr:(wE d a).length≤(brW (decide (lvI a.op<5)) (wE d a)).length:=by unfold brW;split<;>simp;omega
    simp at hwe
    rw [if_pos hlv]
    simp only [decide_eq_true_eq] at hsg
    rw [hsg,hg,obS,obS,jH (by simp;omega),obS,ih a _ _ hb (by simp;omega)]
    simp [sgW]
   ·rw [kQ] at i1
    obtain ⟨a,b,ha⟩:=i8 (by omega)
    have hk:kid e 0=a:=by unfold kid;rw [ha];rfl
    have hk1:kid e 1=b:=by unfold kid;rw [ha];rfl
    have hlv:¬ lvI e.op=5:=by
     rcases ae2 (kQ.2 i1) with h | h | h<;>omega
    have hg:fW e.kids 0=some a:=by rw [ha];rfl
    have hg1:fW e.kids 1=some b:=by rw [ha];rfl
    rw [if_neg c4,hk,hk1] at hwe ⊢
    have hb:=h2 a (by rw [ha];simp)
    have hb1:=h2 b (by rw [ha];simp)
    have hbr:(wE d a).length≤(brW (decide (lvI a.op<lvI e.op)) (wE d a)).length:=by unfold brW;split<;>simp;omega
    have hbr1:(wE d b).length≤(brW (decide (lvI b.op≤lvI e.op)) (wE d b)).length:=by unfold brW;split<;>simp;omega
    simp at hwe
    rw [if_neg hlv,hg,hg1,obS,ih a _ _ hb (by omega),obS,ax7 (by omega),jH (by simp;omega),obS,obS,ih b _ _ hb1 (by simp;omega)]
    simp [sgW]
  cases around with
  | false=>rw [key list (by omega)];rfl
  | true =>
   rw [iB]
   simp only [if_true,fN,obS]
   rw [jH (by simp;omega),obS,key _ (by simp;omega),obS,jH (by simp;omega)]
   simp [brW,pL,pR]
end Prg
end Go.Wk
namespace Go.Wk
open Go
namespace Prg
set_option maxRecDepth 10000
theorem yz {op:Int}:k7 (sgW op)=true:=by
 unfold sgW sgS
 repeat' split
 all_goals rfl
theorem nb {a b:List eu} (ha:vW a) (hb:vW b):vW (a++b):=λw hw=>by
 rcases List.mem_append.1 hw with h | h
 ·exact ha w h
 ·exact hb w h
theorem jV {w:eu} {b:List eu} (ha:k7 w=true) (hb:vW b):vW (w::b):=λx hx=>by
 rcases List.mem_cons.1 hx with rfl | h
 ·exact ha
 ·exact hb x h
theorem mw:vW []:=λw hw=>by cases hw
theorem tB {b:Bool} {ws:List eu} (h:vW ws):vW (brW b ws):=by
 unfold brW
 split
 ·exact jV rfl (nb h (jV rfl mw))
 ·exact h
theorem yi:∀ {l:List (List eu)},(∀ x∈l,vW x)→vW (aW l)
 | [],_=>mw
 | x::r,h=>by
  unfold aW
  refine nb (h x (by simp)) λw hw=>?_
  obtain ⟨y,hy,hw⟩:=List.mem_flatten.1 hw
  obtain ⟨z,hz,rfl⟩:=List.mem_map.1 hy
  exact jV (w:=cM) rfl (h z (by simp [hz])) w hw
theorem pd:∀ {d:Nat} {e:ey},iC d e=true→vW (wE d e)
 | 0,e,h=>by rw [iC] at h;cases h
 | d+1,e,h=>by
  obtain ⟨h1,h2⟩:=nE h
  obtain ⟨i1,i2,_,i4,_,i6,i7,i8,i9⟩:=pa h1
  rw [wE]
  by_cases c1:e.op=1
  ·rw [if_pos c1]
   refine jV ?_ mw
   obtain ⟨n,hn⟩:∃ n:Nat,e.n_=n:=⟨e.n_.toNat,by have:=i2 c1;omega⟩
   have hn2:=i2 c1
   have:=ai3 (n:=n) (by omega)
   show decide (0≤mR (xE e.n_))=true
   rw [hn,this];simp
  rw [if_neg c1]
  by_cases c2:e.op=2
  ·rw [if_pos c2]
   exact jV (i4 (.inl c2)) mw
  rw [if_neg c2]
  by_cases c3:e.op=13
  ·rw [if_pos c3]
   refine jV (i4 (.inr c3)) (jV rfl (nb (yi λx hx=>?_) (jV rfl mw)))
   obtain ⟨k,hk,rfl⟩:=List.mem_map.1 hx
   exact pd (h2 k hk)
  rw [if_neg c3]
  by_cases c4:e.op=11∨e.op=12
  ·rw [if_pos c4]
   obtain ⟨a,ha⟩:=i7 c4
   have hk:kid e 0=a:=by unfold kid;rw [ha];rfl
   rw [hk]
   exact jV yz (tB (pd (h2 a (by rw [ha];simp))))
  ·rw [if_neg c4]
   rw [kQ] at i1
   obtain ⟨a,b,ha⟩:=i8 (by omega)
   have hk:kid e 0=a:=by unfold kid;rw [ha];rfl
   have hk1:kid e 1=b:=by unfold kid;rw [ha];rfl
   rw [hk,hk1]
   exact nb (tB (pd (h2 a (by rw [ha];simp)))) (jV yz (tB (pd (h2 b (by rw [ha];simp)))))
theorem j5 {s t:Str} (h:s.b.length+t.b.length≤100000000):∃ u,iE s t=some u∧u.b=s.b++t.b:=⟨⟨s.b++t.b,by simp;omega⟩,fX.2 ⟨by omega,rfl⟩,rfl⟩
theorem nk {d:Nat} {e:ey} (h:iC d e=true):(txt (wE d e)).length≤30*iW e:=by
 have h1:=pq _ (pd h)
 have h2:=rn h
 omega
theorem ap2 {ws:List eu} (h:ws≠[]):txt (brW true ws)=[40,32]++txt ws++[32,41]:=by
 show txt (pL::(ws++[pR]))=_
 rw [iv (by simp),kD h (by simp),lA]
 simp [pL,pR,mkS]
theorem rV (b:Bool) {ws:List eu} (h:ws≠[]):(txt (brW b ws)).length≤(txt ws).length+4:=by
 cases b with
 | true=>rw [ap2 h];simp
 | false=>show (txt ws).length≤_;omega
theorem ar4 (op:Int):(sgS op).b.length=1:=by
 unfold sgS
 repeat' split
 all_goals rfl
theorem at5:∀ (d:Nat) (e:ey) (need:Int),iC d e=true→iW e≤1000→∃ T,j4 e need=some T∧T.b=txt (brW (decide (lvI e.op<need)) (wE d e)):=by
 intro d
 induction d with
 | zero=>intro e need h;rw [iC] at h;cases h
 | succ d ih =>
  intro e need h hp
  have hlen:=nk h
  have hne:=rU h
  obtain ⟨h1,h2⟩:=nE h
  obtain ⟨i1,i2,_,i4,_,i6,i7,i8,i9⟩:=pa h1
  have hpe:=kv e
  have core:∃ T:Str,T.b=txt (wE (d+1) e)∧j4 e need=(if decide (lvI e.op<need) then (iE (mkS [40,32]) T).bind λuC=>(iE uC (mkS [32,41])).bind λuD=>some uD else some T):=by
   rw [j4,zG]
   simp only [obS]
   rw [wE]
   by_cases c1:e.op=1
   ·obtain ⟨n, hn⟩ : ∃ n : Nat, e.n_ = n := ⟨e.n_.toNat, by have := i2 c1; omega⟩
    have hn2:=i2 c1
    refine ⟨xE e.n_,?_,?_⟩
    ·rw [if_pos c1,lA]
    ·have e1:decide (e.op=1)=true:=decide_eq_true c1
     rw [e1,hn,xM (by omega)];rfl
   have e1:decide (e.op=1)=false:=decide_eq_false c1
   by_cases c2:e.op=2
   ·refine ⟨e.name,?_,?_⟩
    ·rw [if_neg c1,if_pos c2,lA]
    ·have e2:decide (e.op=2)=true:=decide_eq_true c2
     rw [e1,e2];rfl
   have e2:decide (e.op=2)=false:=decide_eq_false c2
   rw [e1,e2,if_neg c1,if_neg c2]
   by_cases c3:e.op=13
   ·have e3:decide (e.op=13)=true:=decide_eq_true c3
    rw [e3,if_pos c3]
    have h40:(mkS [32,40]).b.length=2:=rfl
    have h41:(mkS [32,41]).b.length=2:=rfl
    have h44:(mkS [32,44]).b.length=2:=rfl
    have h32:(mkS [32]).b.length=1:=rfl
    have hnm:e.name.b.length≤4:=by
     have:=i4 (.inr c3)
     unfold ic at this
     simp only [Bool.and_eq_true,decide_eq_true_iff] at this
     exact this.1.2
    obtain ⟨u,u1,u2⟩:=j5 (s:=e.name) (t:=mkS [32,40]) (by omega)
    have hu:=congrArg List.length u2
    rw [List.length_append,h40] at hu
    simp only [Bool.false_eq_true,if_false,if_true,u1,obS]
    have hpk:=hp
    rcases jI (xs := e.kids) (body := (fun (uA : Int) (uB : Str) => ((if decide (0 < uA) then (iE uB (mkS [32, 44])).bind fun uE => some uE else some uB : Option (Str)).bind fun uF => (iE uF (mkS [32])).bind fun uG => (fW e.kids uA).bind fun uH => (j4 uH 1).bind fun uI => (iE uG uI).bind fun uJ => some (.inl uJ) : Option ((Str) ⊕ (Empty))))) (s := u) (fun l s => s.b = txt (⟨1, e.name⟩ :: pL :: aW (l.map (wE d))) ∧ s.b.length ≤ 6 + 40 * jC l) (fun _ => False) ⟨by rw [u2]; show _ = txt [⟨1, e.name⟩, pL]; rw [iv (by simp), lA]; rfl, by omega⟩ (fun l x r s hx hI => .inl (by
     obtain ⟨hI,hI2⟩:=hI
     have hfx:=h2 x (by rw [hx];simp)
     have hpx:=o4 (k:=x) (l:=e.kids) (by rw [hx];simp)
     have hpl:jC e.kids=jC l+(iW x+jC r):=by rw [hx,mF,il]
     have hps:jC (l++[x])=jC l+iW x:=by rw [mF,il,jj];omega
     obtain ⟨T,t1,t2⟩:=ih x 1 hfx (by omega)
     have hlv:decide (lvI x.op<1)=false:=by
      have h0:oP x=true:=by
       cases d with
       | zero=>rw [iC] at hfx;cases hfx
       | succ d=>exact (nE hfx).1
      rcases ae2 (pa h0).1 with h | h | h<;>(apply decide_eq_false;omega)
     rw [hlv] at t2
     have t2:T.b=txt (wE d x):=t2
     have hlx:=nk hfx
     have hpx1:1≤iW x:=by rw [kv];omega
     have hg:fW e.kids (l.length:Int)=some x:=by rw [hx,iO]
     by_cases hl0:l=[]
     ·subst hl0
      have e0:decide (0<(([]:List ey).length:Int))=false:=rfl
      obtain ⟨y,y1,y2⟩:=j5 (s:=s) (t:=mkS [32]) (by omega)
      have hy:=congrArg List.length y2
      rw [List.length_append,h32] at hy
      obtain ⟨z,z1,z2⟩:=j5 (s:=y) (t:=T) (by rw [t2];omega)
      have hz:=congrArg List.length z2
      rw [List.length_append,t2] at hz
      refine ⟨z,?_,?_,by rw [hps];omega⟩
      ·simp only [e0,Bool.false_eq_true,if_false,y1,hg,t1,z1,obS]
      ·have e4 : aW (([] ++ [x]).map (wE d)) = wE d x := by simp [aW]
       rw [z2,y2,hI,t2,e4]
       show txt [⟨1,e.name⟩,pL]++(mkS [32]).b++_=txt ([⟨1,e.name⟩,pL]++wE d x)
       rw [kD (by simp) (rU hfx)]
       simp [mkS]
     ·have e0 : decide (0 < (l.length : Int)) = true := by have := List.length_pos_iff.2 hl0; simp; omega
      have hl1:l.map (wE d)≠[]:=by simpa using hl0
      obtain ⟨q,q1,q2⟩:=j5 (s:=s) (t:=mkS [32,44]) (by omega)
      have hq:=congrArg List.length q2
      rw [List.length_append,h44] at hq
      obtain ⟨y,y1,y2⟩:=j5 (s:=q) (t:=mkS [32]) (by omega)
      have hy:=congrArg List.length y2
      rw [List.length_append,h32] at hy
      obtain ⟨z,z1,z2⟩:=j5 (s:=y) (t:=T) (by rw [t2];omega)
      have hz:=congrArg List.length z2
      rw [List.length_append,t2] at hz
      refine ⟨z,?_,?_,by rw [hps];omega⟩
      ·simp only [e0,if_true,q1,y1,hg,t1,z1,obS]
      ·rw [z2,y2,q2,hI,t2,List.map_append,List.map_cons,List.map_nil,vn,if_neg hl1]
       show _=txt ((⟨1,e.name⟩::pL::aW (l.map (wE d)))++cM::wE d x)
       rw [kD (by simp) (by simp),iv (w:=cM) (rU hfx)]
       simp [mkS,cM])) with ⟨s,h3,h4,h5⟩ | ⟨y,_,h4⟩
    ·obtain ⟨z, z1, z2⟩ := j5 (s := s) (t := mkS [32, 41]) (by omega)
     refine ⟨z,?_,?_⟩
     ·rw [z2,h4]
      show _=txt ((⟨1,e.name⟩::pL::aW (e.kids.map (wE d)))++[pR])
      rw [kD (by simp) (by simp),lA]
      simp [mkS,pR]
     ·rw [h3]
      simp only [obS,Sum.elim_inl,z1]
    ·exact h4.elim
   have e3:decide (e.op=13)=false:=decide_eq_false c3
   rw [e3,if_neg c3]
   by_cases c4:e.op=11∨e.op=12
   ·have hlv : lvI e.op = 5 := by rcases c4 with h | h <;> rw [h] <;> rfl
    obtain ⟨a,ha⟩:=i7 c4
    have hk:kid e 0=a:=by unfold kid;rw [ha];rfl
    have hg:fW e.kids 0=some a:=by rw [ha];rfl
    have hfa:=h2 a (by rw [ha];simp)
    have hpa:iW a≤1000:=by have:=o4 (k:=a) (l:=e.kids) (by rw [ha];simp);omega
    obtain ⟨T,t1,t2⟩:=ih a 5 hfa hpa
    have hla:=nk hfa
    have hlb:=rV (decide (lvI a.op<5)) (rU hfa)
    have hsg:=ar4 e.op
    have h32:(mkS [32]).b.length=1:=rfl
    obtain ⟨u,u1,u2⟩:=j5 (s:=sgS e.op) (t:=mkS [32]) (by omega)
    have hu:=congrArg List.length u2
    rw [List.length_append,h32,hsg] at hu
    obtain ⟨v,v1,v2⟩:=j5 (s:=u) (t:=T) (by rw [t2];omega)
    refine ⟨v,?_,?_⟩
    ·rw [if_pos c4,hk,iv (zy (rU hfa)),v2,u2,t2]
     simp [sgW,mkS]
    ·have e5:decide (lvI e.op=5)=true:=decide_eq_true hlv
     simp only [Bool.false_eq_true,if_false,e5,if_true,hg,zM (show 3≤e.op∧e.op≤12 by omega),u1,t1,v1,obS]
   ·rw [kQ] at i1
    have hlv:lvI e.op=1∨lvI e.op=2∨lvI e.op=3∨lvI e.op=4:=by
     rcases ae2 (kQ.2 i1) with h | h | h<;>omega
    obtain ⟨a,b,ha⟩:=i8 (by omega)
    have hk:kid e 0=a:=by unfold kid;rw [ha];rfl
    have hk1:kid e 1=b:=by unfold kid;rw [ha];rfl
    have hg:fW e.kids 0=some a:=by rw [ha];rfl
    have hg1:fW e.kids 1=some b:=by rw [ha];rfl
    have hfa:=h2 a (by rw [ha];simp)
    have hfb:=h2 b (by rw [ha];simp)
    have hpa:iW a≤1000:=by have:=o4 (k:=a) (l:=e.kids) (by rw [ha];simp);omega
    have hpb:iW b≤1000:=by have:=o4 (k:=b) (l:=e.kids) (by rw [ha];simp);omega
    have ew:w64 (lvI e.op+1)=lvI e.op+1:=hO (by omega) (by omega)
    have eb:decide (lvI b.op<lvI e.op+1)=decide (lvI b.op≤lvI e.op):=by rw [decide_eq_decide];omega
    obtain ⟨T,t1,t2⟩:=ih a (lvI e.op) hfa hpa
    obtain ⟨T2,s1,s2⟩:=ih b (lvI e.op+1) hfb hpb
    rw [eb] at s2
    have hla:=nk hfa
    have hlb:=rV (decide (lvI a.op<lvI e.op)) (rU hfa)
    have hla2:=nk hfb
    have hlb2:=rV (decide (lvI b.op≤lvI e.op)) (rU hfb)
    have hsg:=ar4 e.op
    have h32:(mkS [32]).b.length=1:=rfl
    obtain ⟨u,u1,u2⟩:=j5 (s:=T) (t:=mkS [32]) (by rw [t2,h32];omega)
    have hu:=congrArg List.length u2
    rw [List.length_append,h32,t2] at hu
    obtain ⟨v,v1,v2⟩:=j5 (s:=u) (t:=sgS e.op) (by omega)
    have hv:=congrArg List.length v2
    rw [List.length_append,hsg] at hv
    obtain ⟨x,x1,x2⟩:=j5 (s:=v) (t:=mkS [32]) (by omega)
    have hx:=congrArg List.length x2
    rw [List.length_append,h32] at hx
    obtain ⟨y,y1,y2⟩:=j5 (s:=x) (t:=T2) (by rw [s2];omega)
    refine ⟨y,?_,?_⟩
    ·rw [if_neg c4, hk, hk1, kD (zy (rU hfa)) (by simp), iv (zy (rU hfb)), y2, x2, v2, u2, t2, s2]
     simp [sgW,mkS]
    ·have e5 : decide (lvI e.op = 5) = false := decide_eq_false (by omega)
     simp only [Bool.false_eq_true,if_false,e5,hg,hg1,zM (show 3≤e.op∧e.op≤12 by omega),ew,u1,t1,v1,x1,s1,y1,obS]
  obtain ⟨T,t1,t2⟩:=core
  rw [t2]
  cases hb:decide (lvI e.op<need) with
  | false=>exact ⟨T,rfl,t1⟩
  | true =>
   have h40:(mkS [40,32]).b.length=2:=rfl
   have h41:(mkS [32,41]).b.length=2:=rfl
   obtain ⟨u,u1,u2⟩:=j5 (s:=mkS [40,32]) (t:=T) (by rw [t1,h40];omega)
   have hu:=congrArg List.length u2
   rw [List.length_append,h40,t1] at hu
   obtain ⟨v,v1,v2⟩:=j5 (s:=u) (t:=mkS [32,41]) (by omega)
   refine ⟨v,?_,?_⟩
   ·rw [if_pos rfl,u1,obS,v1];rfl
   ·rw [v2,u2,t1,ap2 hne];rfl
end Prg
end Go.Wk
namespace Go.Wk
open Go
namespace Prg
set_option maxRecDepth 10000
def yc (ws:List eu):Str × Bool:=if ws.length≤600∧(txt ws).length≤3000 then (toS (txt ws),true) else (mkS [],false)
theorem av2 (ws:List eu) (h:vW ws):lP ws=some (yc ws):=by
 unfold lP
 by_cases h6:ws.length≤600
 ·have e1 : decide (600 < (ws.length : Int)) = false := by simp; omega
  rw [e1]
  simp only [Bool.false_eq_true,if_false]
  rw [y5 (by omega) (by omega),obS,show ((ws.length:Int)).toNat=ws.length by omega]
  rw [y7 (xs:=ws) (body:=(λ(uA:Int) (uB:(List Str))=>((fW ws uA).bind λuC=>(kM uC).bind λuD=>if !(uD) then some (.inr ((mkS []),false)) else (fW uB uA).bind λuE=>some (.inl (uB.set (uA).toNat uC.text)):Option (((List Str)) ⊕ (Str × Bool))))) (λw=>w.text) (λl x r ys he hl=>by
   have hx:=h x (by rw [he];simp)
   have hg:fW ws (l.length:Int)=some x:=by rw [he,iO]
   rw [hg,obS,s7,hx,obS,show ((l.length:Int)).toNat=l.length by omega,om,List.getElem?_eq_getElem hl];rfl)]
  have hb:=pq ws h
  have hm:(ws.map (λw=>w.text)).map (·.b)=ws.map (λw=>w.text.b):=by simp
  have hj:strings_Join (ws.map (λw=>w.text)) (mkS [32])=some (toS (txt ws)):=by
   unfold strings_Join ac8
   have h1:(Lib.join ((ws.map (λw=>w.text)).map (·.b)) (mkS [32]).b).length≤140737488355328:=by
    rw [hm];show (txt ws).length≤_;omega
   rw [dif_pos h1,if_pos (by simp;omega)]
   refine congrArg some (Str.ext' ?_)
   rw [wb (by omega)]
   show Lib.join ((ws.map (λw=>w.text)).map (·.b)) [32]=txt ws
   rw [hm];rfl
  simp only [obS,Sum.elim_inl,hj]
  have hl:(toS (txt ws)).b.length=(txt ws).length:=by rw [wb (by omega)]
  rw [hl]
  by_cases h7:(txt ws).length≤3000
  ·have hv:yc ws=(toS (txt ws),true):=if_pos ⟨h6,h7⟩
   rw [hv,if_neg (by simp;omega)]
  ·have hv:yc ws=(mkS [],false):=if_neg λh'=>h7 h'.2
   rw [hv,if_pos (decide_eq_true (by omega))]
 ·have hv:yc ws=(mkS [],false):=if_neg λh'=>h6 h'.1
  rw [hv,if_pos (decide_eq_true (by omega))]
def bp7 (e:ey):Str × Bool:=if j6 e then (toS (txt (wE 6 e)),true) else (mkS [],false)
theorem re {e:ey} (h:j6 e=true):iC 6 e=true∧iW e≤30:=by
 unfold j6 at h
 rw [Bool.and_eq_true,decide_eq_true_iff] at h
 exact h
theorem bg0 {e:ey} {d:Nat} (h:iC d e=true):1≤lvI e.op:=by
 have h0:oP e=true:=by
  cases d with
  | zero=>rw [iC] at h;cases h
  | succ d=>exact (nE h).1
 rcases ae2 (pa h0).1 with h | h | h<;>omega
theorem bi8:∀ e:ey,jM e e=some true:=by
 intro e
 induction e using si with
 | h e ih =>
  have hs:fM e.kids e.kids (λy0 y1=>jM y0 y1)=some true:=by
   unfold fM
   rw [if_neg (by simp)]
   generalize e.kids=ks at ih
   rw [la (xs:=ks) (body:=(λ(uA:Int) (uE:Unit)=>((fW ks uA).bind λuB=>(fW ks uA).bind λuC=>((λy0 y1 ↦ jM y0 y1) uB uC).bind λuD=>if !(uD) then some (.inr false) else some (.inl ()):Option ((Unit) ⊕ (Bool))))) (λ_=>false) false (λl x r he=>by
    rw [he,iO,obS,obS]
    show (jM x x).bind _=_
    rw [ih x (by rw [he];simp)];rfl)]
   have:ks.any (λ_=>false)=false:=by simp
   rw [this];rfl
  rw [jM]
  simp only [decide_true,if_true,hs,obS]
theorem bd7:∀ e:ey,jt e e=some true:=by
 intro e
 induction e using si with
 | h e ih =>
  rw [jt]
  simp only [ne_eq,not_true_eq_false,decide_false,Bool.false_eq_true,if_false,obS]
  rw [la (xs:=e.kids) (body:=(λ(uA:Int) (uE:Unit)=>((fW e.kids uA).bind λuB=>(fW e.kids uA).bind λuC=>(jt uB uC).bind λuD=>if !(uD) then some (.inr false) else some (.inl ()):Option ((Unit) ⊕ (Bool))))) (λ_=>false) false (λl x r he=>by
   rw [he,iO,obS,obS,ih x (by rw [he];simp)];rfl)]
  have:e.kids.any (λ_=>false)=false:=by simp
  rw [this];rfl
end Prg
end Go.Wk
namespace Go.Wk
open Go
namespace Prg
set_option maxRecDepth 10000
def bb3 (need:Int) (r:List eu):Prop:=(∀ m:Int,need≤m→m≤4→opT m r=0)∧isT r (mkS [40])=false
def bo7:Job→Prop
 | .E _ ws _ _=>vW ws→isT ws (mkS [41])=false
 | .L _ _ _ _ _=>True
 | .A _ _ _=>True
 | .M _ _ _ _=>True
def bn9 (d:Nat) (e:ey):Prop:=∀ (need:Int) (r:List eu),1≤need→need≤5→bb3 need r→Rd (.E need (brW (decide (lvI e.op<need)) (wE d e)++r) e r)
def bo3 (d:Nat) (e:ey):Prop:=∀ (lv:Int) (ws:List eu) (e':ey) (r:List eu),(lv=1∨lv=2∨lv=3∨lv=4)→bb3 (lv+1) ws→Rd (.L lv e ws e' r)→Rd (.E lv (brW (decide (lvI e.op<lv)) (wE d e)++ws) e' r)
end Prg
end Go.Wk
namespace Go.Wk
open Go
namespace Prg
set_option maxRecDepth 10000
theorem yy {p:UInt8→Bool} {b:UInt8} (hb:p b=false) (q:List UInt8):∀ r:List UInt8,(r++b::q).takeWhile p=r.takeWhile p∧(r++b::q).dropWhile p=r.dropWhile p++b::q
 | []=>by
  rw [List.nil_append,List.takeWhile_cons,List.dropWhile_cons,hb]
  exact ⟨rfl,rfl⟩
 | a::r=>by
  have ih:=yy hb q r
  rw [List.cons_append,List.takeWhile_cons,List.dropWhile_cons,List.takeWhile_cons,List.dropWhile_cons]
  cases p a with
  | true=>simp only [if_true];rw [ih.1,ih.2];exact ⟨rfl,rfl⟩
  | false=>exact ⟨rfl,rfl⟩
end Prg
end Go.Wk
namespace Go.Wk
open Go
namespace Prg
set_option maxRecDepth 10000
def Dr {A:Type} (o:Option A) (Q:A→Prop):Prop:=∃ a,o=some a∧Q a
theorem Dr.some {A:Type} {a:A} {Q:A→Prop} (h:Q a):Dr (some a) Q:=⟨a,rfl,h⟩
theorem Dr.bind {A B:Type} {o:Option A} {f:A→Option B} {P:A→Prop} {Q:B→Prop} (h:Dr o P) (k:∀ a,P a→Dr (f a) Q):Dr (Option.bind o f) Q:=by
 obtain ⟨a,h1,h2⟩:=h
 obtain ⟨b,h3,h4⟩:=k a h2
 exact ⟨b,fT h1 h3,h4⟩
theorem Dr.ite {A:Type} {c:Bool} {x y:Option A} {Q:A→Prop} (h1:c=true→Dr x Q) (h2:c=false→Dr y Q):Dr (if c=true then x else y) Q:=by
 cases c
 ·exact h2 rfl
 ·exact h1 rfl
theorem Dr.mono {A:Type} {o:Option A} {P Q:A→Prop} (h:Dr o P) (k:∀ a,P a→Q a):Dr o Q:=by
 obtain ⟨a,h1,h2⟩:=h
 exact ⟨a,h1,k a h2⟩
theorem Dr.get {A:Type} {xs:List A} {i:Int} (h0:0≤i) (h1:i<(xs.length:Int)):Dr (fW xs i) (λx=>x∈xs):=by
 obtain ⟨x,hx,_,hm⟩:=qz h0 h1
 exact ⟨x,hx,hm⟩
theorem Dr.app {A:Type} {xs ys:List A} (h:xs.length+ys.length≤2147483648):Dr (fq xs ys) (λl=>l=xs++ys):=⟨_,jH h,rfl⟩
theorem Dr.forN {S:Type} {body:Int→S→Option (S ⊕ Empty)} {B:Type} {f:S ⊕ Empty→Option B} {Q:B→Prop} (I:Int→S→Prop) {k:Nat} {s:S} (h0:I 0 s)
  (h:∀ j s,0≤j→j<(k:Int)→I j s→Dr (body j s) (λr=>∀ t,r=.inl t→I (j+1) t)) (hf:∀ s,I k s→Dr (f (.inl s)) Q):Dr ((forN body k 0 s).bind f) Q:=by
 rcases ya (body:=body) (k:=k) (i:=0) (s:=s) I (λ_=>False) h0 (λj s h1 h2 hs=>by
  obtain ⟨r,h3,h4⟩:=h j s h1 (by simpa using h2) hs
  cases r with
  | inl t=>exact .inl ⟨t,h3,h4 t rfl⟩
  | inr e=>exact e.elim) with ⟨t,h3,h4⟩ | ⟨e,_,h4⟩
 ·obtain ⟨b, h5, h6⟩ := hf t (by simpa using h4)
  exact ⟨b,fT h3 h5,h6⟩
 ·exact h4.elim
theorem Dr.loop {S X:Type} {body:S→Option (S ⊕ X)} {Q:X→Prop} (I:S→Prop) (μ:S→Nat):∀ {s:S},I s→(∀ s,I s→Dr (body s) (λr=>(∀ t,r=.inl t→I t∧μ t<μ s)∧∀ x,r=.inr x→Q x))→Dr (gG body s) Q:=by
 intro s hs h
 generalize hn:μ s=n
 induction n using Nat.strongRecOn generalizing s with
 | _ n ih =>
  obtain ⟨r,h1,h2,h3⟩:=h s hs
  cases r with
  | inl t =>
   have h4:=h2 t rfl
   obtain ⟨x,h5,h6⟩:=ih (μ t) (by omega) h4.1 rfl
   exact ⟨x,by rw [iz h1];exact h5,h6⟩
  | inr x=>exact ⟨x,gH h1,h3 x rfl⟩
theorem bc5 (a b:Int) (ha:0≤a∧a<1073741824) (hb:0≤b∧b<1073741824):0≤pe IntKind.i64 (· ^^^ ·) a b:=by
 unfold pe
 have h:(BitVec.ofInt 64 a ^^^ BitVec.ofInt 64 b).toNat<2 ^ 30:=by
  rw [BitVec.toNat_xor]
  refine Nat.xor_lt_two_pow ?_ ?_<;>rw [BitVec.toNat_ofInt]<;>omega
 show 0≤IntKind.i64.wrap ((BitVec.ofInt 64 a ^^^ BitVec.ofInt 64 b).toNat:Int)
 rw [IntKind.wrap_i64]
 omega
theorem rD {a n:Int} (ha:0≤a) (hn:0<n):0≤a.tmod n∧a.tmod n<n:=⟨Int.tmod_nonneg _ ha,Int.tmod_lt_of_pos _ hn⟩
theorem xb (b:List UInt8) (hb:b.length≤2000) (p n:Int) (h0:0≤p) (h1:p≤1000000):∃ v,fe ⟨b,p⟩ n=some (v,⟨b,p+1⟩)∧0≤v∧(0<n→v<n):=by
 unfold fe
 have e1:w64 (p+1)=p+1:=hO (by omega) (by omega)
 have e2:w64 (p+1 - 1)=p:=by rw [hO (by omega) (by omega)];omega
 simp only [e1,e2]
 by_cases hn:n<1
 ·simp only [hn,decide_true,if_true,obS]
  exact ⟨0,rfl,by omega,by omega⟩
 by_cases hl:b.length=0
 ·simp only [hn,hl,decide_false,Bool.false_eq_true,if_false,obS,Int.natCast_zero,decide_true,if_true]
  exact ⟨0,rfl,by omega,by omega⟩
 have hbl:¬ ((b.length:Int)=0):=by omega
 have hn0:¬ n=0:=by omega
 simp only [hn,hbl,decide_false,Bool.false_eq_true,if_false,obS]
 by_cases hk:p<(b.length:Int)
 ·obtain ⟨x,hx,_⟩:=qz (xs:=b) h0 hk
  simp only [hk,decide_true,if_true,hx,obS,zH,hn0,if_false]
  have:=rD (a:=((x.toNat:Nat):Int)) (n:=n) (by omega) (by omega)
  exact ⟨_,rfl,this.1,λ_=>this.2⟩
 ·have hpl : (0 : Int) < (b.length : Int) := by omega
  have e3:w64 (w64 (p*7)+3)=p*7+3:=by rw [hO (n:=p*7) (by omega) (by omega),hO (by omega) (by omega)]
  obtain ⟨x,hx,_⟩:=qz (xs:=b) (rD h0 hpl).1 (rD h0 hpl).2
  obtain ⟨y,hy,_⟩:=qz (xs:=b) (rD (a:=p*7+3) (by omega) hpl).1 (rD (a:=p*7+3) (by omega) hpl).2
  have hd:0≤p.tdiv (b.length:Int)∧p.tdiv (b.length:Int)≤p:=⟨Int.tdiv_nonneg h0 (by omega),Int.tdiv_le_self _ h0⟩
  have e4:w64 (p.tdiv (b.length:Int))=p.tdiv (b.length:Int):=hO (by omega) (by omega)
  have hx8:(x.toNat:Int)<256:=by have:=x.toNat_lt;omega
  have hy8:(y.toNat:Int)<256:=by have:=y.toNat_lt;omega
  have hz:∃ z:Int,w64 (w64 (w64 (w64 ((x.toNat:Int)*131)+w64 ((y.toNat:Int)*1117))+w64 (p*29))+w64 (p.tdiv (b.length:Int)*53))=z∧0≤z∧z<1073741824:=by
   refine ⟨_,rfl,?_⟩
   rw [hO (n := (x.toNat : Int) * 131) (by omega) (by omega), hO (n := (y.toNat : Int) * 1117) (by omega) (by omega), hO (n := p * 29) (by omega) (by omega),
    hO (n:=p.tdiv (b.length:Int)*53) (by omega) (by omega),hO (n:=(x.toNat:Int)*131+(y.toNat:Int)*1117) (by omega) (by omega),
    hO (n:=(x.toNat:Int)*131+(y.toNat:Int)*1117+p*29) (by omega) (by omega),hO (by omega) (by omega)]
   omega
  obtain ⟨z,hz,hz0,hz1⟩:=hz
  have hq:0≤z.tdiv 64∧z.tdiv 64≤z:=⟨Int.tdiv_nonneg hz0 (by omega),Int.tdiv_le_self _ hz0⟩
  have e5:w64 (z.tdiv 64)=z.tdiv 64:=hO (by omega) (by omega)
  simp only [hk,decide_false,Bool.false_eq_true,if_false,zH,av6,hbl,hn0,obS,e3,hx,hy,e4,hz,e5]
  have:=rD (bc5 z (z.tdiv 64) ⟨hz0,hz1⟩ ⟨hq.1,by omega⟩) (show 0<n by omega)
  exact ⟨_,rfl,this.1,λ_=>this.2⟩
theorem bh0 (b:List UInt8) (hb:b.length≤2000) (p:Int) (l:List Int) (hl:0<l.length) (h0:0≤p) (h1:p≤1000000):∃ v,gT ⟨b,p⟩ l=some (v,⟨b,p+1⟩)∧v∈l:=by
 obtain ⟨v,h2,h3,h4⟩:=xb b hb p (l.length:Int) h0 h1
 obtain ⟨x,hx,_,hm⟩:=qz (xs:=l) h3 (h4 (by omega))
 exact ⟨x,fT h2 (fT hx rfl),hm⟩
section
variable {b:List UInt8} (hb:b.length≤2000) {p:Int} {B:Type} {Q:B→Prop}
theorem pk {n:Int} {f:Int × fG→Option B} (hb:b.length≤2000) (h0:0≤p) (h1:p≤1000000) (k:∀ v,0≤v→(0<n→v<n)→Dr (f (v,⟨b,p+1⟩)) Q):Dr ((fe ⟨b,p⟩ n).bind f) Q:=by
 obtain ⟨v,h2,h3,h4⟩:=xb b hb p n h0 h1
 obtain ⟨c,h5,h6⟩:=k v h3 h4
 exact ⟨c,fT h2 h5,h6⟩
theorem nm {l:List Int} {f:Int × fG→Option B} (hb:b.length≤2000) (hl:0<l.length) (h0:0≤p) (h1:p≤1000000) (k:∀ v,v∈l→Dr (f (v,⟨b,p+1⟩)) Q):Dr ((gT ⟨b,p⟩ l).bind f) Q:=by
 obtain ⟨v,h2,h3⟩:=bh0 b hb p l hl h0 h1
 obtain ⟨c,h5,h6⟩:=k v h3
 exact ⟨c,fT h2 h5,h6⟩
theorem gtx {A:Type} {xs:List A} {i:Int} {f:A→Option B} (h0:0≤i) (h1:i<(xs.length:Int)) (k:∀ x,x∈xs→Dr (f x) Q):Dr ((fW xs i).bind f) Q:=Dr.bind (Dr.get h0 h1) k
theorem ap {A:Type} {xs ys:List A} {f:List A→Option B} (h:xs.length+ys.length≤2147483648) (k:Dr (f (xs++ys)) Q):Dr ((fq xs ys).bind f) Q:=Dr.bind (Dr.app h) λ_ e=>by subst e;exact k
def DrA {A:Type} (o:Option (A × fG)) (b:List UInt8) (lo hi:Int) (P:A→Prop):Prop:=Dr o (λr=>(r.2.b=b∧lo≤r.2.p∧r.2.p≤hi)∧P r.1)
theorem DrA.bind {A:Type} {o:Option (A × fG)} {lo hi:Int} {P:A→Prop} {f:A × fG→Option B} (h:DrA o b lo hi P) (k:∀ v q,lo≤q→q≤hi→P v→Dr (f (v,⟨b,q⟩)) Q):Dr (Option.bind o f) Q:=by
 obtain ⟨⟨v,⟨b',q⟩⟩,h1,⟨h2,h3,h4⟩,h5⟩:=h
 simp only at h2 h3 h4 h5
 subst h2
 obtain ⟨c,h6,h7⟩:=k v q h3 h4 h5
 exact ⟨c,fT h1 h6,h7⟩
theorem DrA.some {A:Type} {v:A} {q lo hi:Int} {P:A→Prop} (h1:lo≤q) (h2:q≤hi) (h3:P v):DrA (some (v,(⟨b,q⟩:fG))) b lo hi P:=⟨_,rfl,⟨rfl,h1,h2⟩,h3⟩
end
theorem az0 (code:List UInt8):∃ b,nU code=Option.some ⟨b,0⟩∧b.length≤2000:=by
 unfold nU
 by_cases h:(2000:Int)<(code.length:Int)
 ·simp only [h,decide_true,if_true]
  have:uq code 0 2000=Option.some (code.take 2000):=by
   unfold uq
   rw [if_pos (by omega)]
   simp
  rw [this]
  exact ⟨_,rfl,by rw [List.length_take];omega⟩
 ·simp only [h,decide_false,Bool.false_eq_true,if_false,obS]
  exact ⟨_,rfl,by omega⟩
theorem DrF {A:Type} {b:List UInt8} {lo hi:Int} {P:A→Prop} {r:A × fG} (h1:r.2.b=b) (h2:lo≤r.2.p) (h3:r.2.p≤hi) (h4:P r.1):Dr (some r) (λr=>(r.2.b=b∧lo≤r.2.p∧r.2.p≤hi)∧P r.1):=⟨r,rfl,⟨h1,h2,h3⟩,h4⟩
theorem xQ:∀ {d:Nat} {e:ey},iC d e=true→iC (d+1) e=true
 | 0,e,h=>by rw [iC] at h;cases h
 | d+1,e,h=>by
  obtain ⟨h1,h2⟩:=nE h
  rw [iC,Bool.and_eq_true,List.all_eq_true]
  exact ⟨h1,λk hk=>xQ (h2 k hk)⟩
theorem at8 {d e2:Nat} {e:ey} (h:d≤e2) (hf:iC d e=true):iC e2 e=true:=by
 obtain ⟨k,rfl⟩:∃ k,e2=d+k:=⟨e2 - d,by omega⟩
 clear h
 induction k with
 | zero=>exact hf
 | succ k ih=>exact xQ ih
theorem an9 {n:Int} (h:0≤n∧n≤255):iC 1 ⟨1,n,mkS [],[]⟩=true∧iW ⟨1,n,mkS [],[]⟩=1:=by
 constructor
 ·rw [iC]
  have:inB n 0 255=true:=kQ.2 h
  simp [oP,mq,kQ,h]
 ·rw [kv];show 1+jC []=1;rw [jj]
theorem af9 {s:Str} (h:ic s=true):iC 1 ⟨2,0,s,[]⟩=true∧iW ⟨2,0,s,[]⟩=1:=by
 constructor
 ·rw [iC]
  simp [oP,mq,kQ,h]
 ·rw [kv];show 1+jC []=1;rw [jj]
theorem bi9 (b:List UInt8) (hb:b.length≤2000) (p:Int) (l:List Str) (hl:0<l.length) (h0:0≤p) (h1:p≤1000000):∃ v,iI ⟨b,p⟩ l=some (v,⟨b,p+1⟩)∧v∈l:=by
 obtain ⟨v,h2,h3,h4⟩:=xb b hb p (l.length:Int) h0 h1
 obtain ⟨x,hx,_,hm⟩:=qz (xs:=l) h3 (h4 (by omega))
 exact ⟨x,fT h2 (fT hx rfl),hm⟩
theorem ofx {b:List UInt8} {p:Int} {B:Type} {Q:B→Prop} {l:List Str} {f:Str × fG→Option B} (hb:b.length≤2000) (hl:0<l.length) (h0:0≤p) (h1:p≤1000000) (k:∀ v,v∈l→Dr (f (v,⟨b,p+1⟩)) Q):Dr ((iI ⟨b,p⟩ l).bind f) Q:=by
 obtain ⟨v,h2,h3⟩:=bi9 b hb p l hl h0 h1
 obtain ⟨c,h5,h6⟩:=k v h3
 exact ⟨c,fT h2 h5,h6⟩
theorem ad8 {b:List UInt8} (hb:b.length≤2000) {p:Int} (h0:0≤p) (h1:p≤900000) {names:List Str} (hn:∀ s∈names,ic s=true):DrA (oC ⟨b,p⟩ names) b p (p+2) (λe=>iC 1 e=true∧iW e=1):=by
 unfold oC
 have rest:∀ (q:Int) (c:Bool),p≤q→q≤p+1→(c=false→names≠[])→DrA (if c then (gT (⟨b,q⟩:fG) ([0,1,2,3,5,7,15,16,100,255]:List Int)).bind λuA=>some ((⟨1,uA.1,(mkS []),[]⟩:ey),(⟨b,uA.2.p⟩:fG)) else (iI (⟨b,q⟩:fG) names).bind λuB=>some ((⟨2,0,uB.1,[]⟩:ey),(⟨b,uB.2.p⟩:fG))) b p (p+2) (λe=>iC 1 e=true∧iW e=1):=by
  intro q c hq1 hq2 hc
  cases c with
  | true =>
   refine nm hb (by decide) (by omega) (by omega) λv hv=>DrF (lo:=p) (hi:=p+2) (P:=λe=>iC 1 e=true∧iW e=1) rfl (by dsimp only;omega) (by dsimp only;omega) (an9 (n:=v) ?_)
   simp only [List.mem_cons,List.not_mem_nil,or_false] at hv
   omega
  | false =>
   exact ofx hb (List.length_pos_iff.2 (hc rfl)) (by omega) (by omega) λv hv=>DrF (lo:=p) (hi:=p+2) (P:=λe=>iC 1 e=true∧iW e=1) rfl (by dsimp only;omega) (by dsimp only;omega) (af9 (hn v hv))
 by_cases hz:names=[]
 ·subst hz
  exact rest p true (by omega) (by omega) (λh=>by cases h)
 ·have e0 : decide ((names.length : Int) = 0) = false := by have := List.length_pos_iff.2 hz; simp; omega
  rw [e0]
  refine Dr.bind (P:=λs=>p≤s.1∧s.1≤p+1) ?_ λs hs=>rest s.1 s.2 hs.1 hs.2 λ_=>hz
  exact pk hb (by omega) (by omega) λv g1 g2=>Dr.some ⟨by dsimp only;omega,by dsimp only;omega⟩
theorem al9 {op:Int} {d:Nat} {a:ey} (h:op=11∨op=12) (ha:iC d a=true):iC (d+1) ⟨op,0,mkS [],[a]⟩=true:=by
 rw [iC]
 rcases h with rfl | rfl<;>simp [oP,mq,kQ,ha]
theorem am9 {op:Int} {d:Nat} {a c:ey} (h:3≤op∧op≤10) (ha:iC d a=true) (hc:iC d c=true):iC (d+1) ⟨op,0,mkS [],[a,c]⟩=true:=by
 have:op=3∨op=4∨op=5∨op=6∨op=7∨op=8∨op=9∨op=10:=by omega
 rw [iC]
 rcases this with rfl | rfl | rfl | rfl | rfl | rfl | rfl | rfl<;>simp [oP,mq,kQ,ha,hc]
theorem ax9 (op n:Int) (s:Str) (a:ey):iW ⟨op,n,s,[a]⟩=1+iW a:=by rw [kv];show 1+jC [a]=_;rw [il,jj];omega
theorem aw8 (op n:Int) (s:Str) (a c:ey):iW ⟨op,n,s,[a,c]⟩=1+iW a+iW c:=by rw [kv];show 1+jC [a,c]=_;rw [il,il,jj];omega
theorem ab7 {b:List UInt8} (hb:b.length≤2000) {names:List Str} (hn:∀ s∈names,ic s=true):∀ (d:Nat) (p:Int),d≤7→0≤p→p+4 ^ (d+1)≤900000→DrA (jZ ⟨b,p⟩ names ((d+1:Nat):Int)) b p (p+4 ^ (d+1)) (λe=>iC (d+1) e=true∧iW e+1≤2 ^ (d+1)):=by
 intro d
 induction d with
 | zero =>
  intro p hd h0 h1
  rw [jZ]
  have e1:decide (((0+1:Nat):Int)<2)=true:=rfl
  rw [e1]
  simp only [if_true,obS]
  exact DrA.bind (ad8 hb h0 (by simp at h1;omega) hn) λv q g1 g2 g3=>DrF (lo:=p) (hi:=p+4 ^ (0+1)) (P:=λe=>iC (0+1) e=true∧iW e+1≤2 ^ (0+1)) rfl (by dsimp only;omega) (by dsimp only;simp;omega) ⟨g3.1,by rw [g3.2];decide⟩
 | succ d ih =>
  intro p hd h0 h1
  have hpow:(4:Int) ^ (d+1+1)=4*4 ^ (d+1):=by rw [Int.pow_succ];omega
  have hpow2:(2:Nat) ^ (d+1+1)=2*2 ^ (d+1):=by rw [Nat.pow_succ];omega
  have hp1:(4:Int)≤4 ^ (d+1):=by
   have:(4:Int) ^ (d+1)=((4 ^ (d+1):Nat):Int):=by push_cast;rfl
   rw [this]
   have:4 ^ 1≤4 ^ (d+1):=Nat.pow_le_pow_right (by decide) (by omega)
   omega
  have hp2:2≤2 ^ (d+1):=by
   have:2 ^ 1≤2 ^ (d+1):=Nat.pow_le_pow_right (by decide) (by omega)
   omega
  rw [hpow] at h1 ⊢
  rw [hpow2]
  generalize hP:(4:Int) ^ (d+1)=P at *
  rw [jZ]
  have e1:decide (((d+1+1:Nat):Int)<2)=false:=by simp;omega
  have ew:w64 (((d+1+1:Nat):Int) - 1)=((d+1:Nat):Int):=by rw [hO (by omega) (by omega)];omega
  rw [e1]
  simp only [Bool.false_eq_true,if_false,ew]
  refine Dr.bind (P:=λs=>s.1=p+1) (pk hb h0 (by omega) λv _ _=>Dr.some rfl) λs hs=>?_
  refine Dr.ite (λ_=>?_) (λ_=>?_)
  ·rw [hs]
   exact DrA.bind (ad8 hb (by omega) (by omega) hn) λv q g1 g2 g3=>DrF (lo:=p) (hi:=p+4*P) (P:=λe=>iC (d+1+1) e=true∧iW e+1≤2*2 ^ (d+1)) rfl (by dsimp only;omega) (by dsimp only;omega) ⟨at8 (by omega) g3.1,by rw [g3.2];omega⟩
  rw [hs]
  refine pk hb (by omega) (by omega) λv _ _=>?_
  dsimp only
  refine Dr.ite (λ_=>?_) (λ_=>?_)
  ·refine nm hb (by decide) (by omega) (by omega) fun op hop => ?_
   dsimp only
   have hop2:op=11∨op=12:=by
    simp only [List.mem_cons,List.not_mem_nil,or_false] at hop
    omega
   refine DrA.bind (ih (p+1+1+1) (by omega) (by omega) (by omega)) λe q g1 g2 g3=>DrF (lo:=p) (hi:=p+4*P) (P:=λe=>iC (d+1+1) e=true∧iW e+1≤2*2 ^ (d+1)) rfl (by dsimp only;omega) (by dsimp only;omega) ⟨al9 hop2 g3.1,by rw [ax9];dsimp only;omega⟩
  ·refine nm hb (by decide) (by omega) (by omega) fun op hop => ?_
   dsimp only
   have hop2:3≤op∧op≤10:=by
    simp only [List.mem_cons,List.not_mem_nil,or_false] at hop
    omega
   refine DrA.bind (ih (p+1+1+1) (by omega) (by omega) (by omega)) λe q g1 g2 g3=>?_
   dsimp only
   refine DrA.bind (ih q (by omega) (by omega) (by omega)) λe2 q2 k1 k2 k3=>DrF (lo:=p) (hi:=p+4*P) (P:=λe=>iC (d+1+1) e=true∧iW e+1≤2*2 ^ (d+1)) rfl (by dsimp only;omega) (by dsimp only;omega) ⟨am9 hop2 g3.1 k3.1,by rw [aw8];dsimp only;omega⟩
end Prg
end Go.Wk
namespace Go.Wk
open Go
namespace Prg
set_option maxRecDepth 10000
end Prg
end Go.Wk
namespace Go.Wk
open Go
namespace Prg
set_option maxRecDepth 10000
end Prg
end Go.Wk
namespace Go.Wk
open Go
namespace Prg
set_option maxRecDepth 10000
end Prg
end Go.Wk
namespace Go.Wk
open Go
namespace Prg
set_option maxRecDepth 10000
def nW (d:Nat) (e:ey) (need:Int):Nat:=(brW (decide (lvI e.op<need)) (wE d e)).length
def bo9:Job→Prop
 | .E lv ws e r=>∀ d,iC d e=true→nW d e lv+r.length≤ws.length
 | .L lv x ws e r=>(lv=1∨lv=2∨lv=3∨lv=4)→∀ d,iC d e=true→(∃ d',iC d' x=true∧∀ k:Nat,nW d' x lv≤k→nW d e lv+r.length≤ws.length+k)
 | .A ws ks r=>∀ d,(∀ k∈ks,iC d k=true)→(aW (ks.map (wE d))).length+1+r.length≤ws.length
 | .M acc ws ks r=>∀ d,(∀ k∈ks,iC d k=true)→(∀ k∈acc,iC d k=true)∧(aW (ks.map (wE d))).length+1+r.length≤(aW (acc.map (wE d))).length+ws.length
end Prg
end Go.Wk
namespace Go.Wk
open Go
namespace Prg
set_option maxRecDepth 10000
theorem ab5 {s:Str} {c:UInt8} (hs:s.b=[c]) {n:Int} (h0:0≤n) (h1:n≤5000):∃ t,l9 s n=some t∧(t.b.length:Int)=n∧∀ x∈t.b,x=c:=by
 have h:Dr (l9 s n) (λt=>(t.b.length:Int)=n∧∀ x∈t.b,x=c):=by
  unfold l9
  refine Dr.bind (P:=λt:Str=>(t.b.length:Int)=n∧∀ x∈t.b,x=c) ?_ λt ht=>Dr.some ht
  refine Dr.bind (P:=λt:Str=>(t.b.length:Int)=n∧∀ x∈t.b,x=c) ?_ λt ht=>Dr.some ht
  refine Dr.loop (I:=λst:Str × Int × Str=>0≤st.2.1∧(st.2.2.b.length:Int)+st.2.1*st.1.b.length=n∧1≤st.1.b.length∧st.1.b.length≤10000∧(0<st.2.1→(st.1.b.length:Int)≤n)∧(∀ x∈st.1.b,x=c)∧∀ x∈st.2.2.b,x=c) (λst=>st.2.1.toNat) ⟨h0,by rw [hs];simp [mkS],by rw [hs];simp,by rw [hs];simp,λh=>by have h:0<n:=h;show ((s.b.length:Nat):Int)≤n;rw [hs];simp;omega,λx hx=>by rw [hs] at hx;simpa using hx,λx hx=>by simp [mkS] at hx⟩ ?_
  rintro ⟨x,m,r⟩ ⟨i1,i2,i3,i4,i5,i6,i7⟩
  dsimp only at i1 i2 i3 i4 i5 i6 i7 ⊢
  by_cases hm:0<m
  ·rw [if_pos (by simpa using hm)]
   have hxn:=i5 hm
   obtain ⟨k,rfl⟩:∃ k:Nat,m=k:=⟨m.toNat,by omega⟩
   have hrl:(r.b.length:Int)≤n:=by
    have:(0:Int)≤(k:Int)*x.b.length:=Int.mul_nonneg (by omega) (by omega)
    omega
   have e1:((k:Int).tmod 2)=((k % 2:Nat):Int):=by rw [Int.tmod_eq_emod_of_nonneg (by omega)];omega
   have e2:w64 ((k:Int).tdiv 2)=((k / 2:Nat):Int):=by
    have:(k:Int).tdiv 2=((k / 2:Nat):Int):=by rw [Int.tdiv_eq_ediv_of_nonneg (by omega)];omega
    have hk:(k:Int)≤n:=by
     have h2:(k:Int)*1≤(k:Int)*x.b.length:=Int.mul_le_mul_of_nonneg_left (by omega) (by omega)
     omega
    rw [this,hO (by omega) (by omega)]
   have step:∀ r':Str,(r'.b.length:Int)=r.b.length+((k % 2:Nat):Int)*x.b.length→(∀ y∈r'.b,y=c)→Dr ((iE x x).bind λuA=>(some (.inl (uA,w64 ((k:Int).tdiv 2),r')):Option ((Str × Int × Str) ⊕ Str))) (λq=>(∀ t,q=.inl t→(0≤t.2.1∧(t.2.2.b.length:Int)+t.2.1*t.1.b.length=n∧1≤t.1.b.length∧t.1.b.length≤10000∧(0<t.2.1→(t.1.b.length:Int)≤n)∧(∀ x∈t.1.b,x=c)∧∀ x∈t.2.2.b,x=c)∧t.2.1.toNat<k)∧∀ t,q=.inr t→((t.b.length:Int)=n∧∀ x∈t.b,x=c)):=by
    intro r' hr1 hr2
    obtain ⟨y,y1,y2⟩:=j5 (s:=x) (t:=x) (by omega)
    have hy:=congrArg List.length y2
    rw [List.length_append] at hy
    rw [y1,obS,e2]
    refine Dr.some (And.intro (λt ht=>?_) λt ht=>by cases ht)
    simp only [Sum.inl.injEq] at ht
    subst ht
    have hsum:(r'.b.length:Int)+((k / 2:Nat):Int)*y.b.length=n:=by
     rw [hr1,hy]
     have:(k:Int)=((k % 2:Nat):Int)+2*((k / 2:Nat):Int):=by omega
     rw [this] at i2
     rw [Int.add_mul] at i2
     push_cast at i2 ⊢
     rw [Int.mul_add]
     rw [show (2:Int)*((k:Int) / 2)*(x.b.length:Int)=(k:Int) / 2*(x.b.length:Int)+(k:Int) / 2*(x.b.length:Int) by rw [Int.mul_assoc,Int.two_mul]] at i2
     omega
    refine ⟨⟨by dsimp only;omega,hsum,by dsimp only;omega,by dsimp only;omega,λh=>?_,λz hz=>?_,hr2⟩,by dsimp only;omega⟩
    ·dsimp only at h ⊢
     have h2:1*(y.b.length:Int)≤((k / 2:Nat):Int)*y.b.length:=Int.mul_le_mul_of_nonneg_right (by omega) (by omega)
     omega
    ·dsimp only at hz
     rw [y2] at hz
     rcases List.mem_append.1 hz with h | h<;>exact i6 z h
   rw [e1]
   by_cases hodd:((k % 2:Nat):Int)=1
   ·rw [if_pos (by simpa using hodd)]
    obtain ⟨y,y1,y2⟩:=j5 (s:=r) (t:=x) (by omega)
    rw [y1]
    simp only [obS]
    refine step y (by rw [y2,hodd];simp) λz hz=>?_
    rw [y2] at hz
    rcases List.mem_append.1 hz with h | h
    ·exact i7 z h
    ·exact i6 z h
   ·rw [if_neg (by simpa using hodd)]
    simp only [obS]
    refine step r ?_ i7
    have:((k % 2:Nat):Int)=0:=by omega
    rw [this];simp
  ·rw [if_neg (by simpa using hm)]
   refine Dr.some (And.intro (λt ht=>by cases ht) λt ht=>?_)
   simp only [Sum.inr.injEq] at ht
   subst ht
   have:m=0:=by omega
   subst this
   simp at i2
   exact ⟨i2,i7⟩
 exact h
end Prg
end Go.Wk
namespace Go.Wk
open Go
namespace Prg
set_option maxRecDepth 10000
theorem rA {l:List Str} {n:Nat} (h:l.all (λs=>decide (s.b.length≤n))=true) {s:Str} (hs:s∈l):s.b.length≤n:=by
 simpa using List.all_eq_true.1 h s hs
theorem ae5 {b:List UInt8} (hb:b.length≤2000) {p:Int} (h0:0≤p) (h1:p≤900000):DrA (nC ⟨b,p⟩) b p (p+2) (λs=>s.b.length≤4):=by
 unfold nC
 refine pk hb h0 (by omega) λv _ _=>?_
 dsimp only
 refine Dr.ite (λ_=>ofx hb (by decide) (by omega) (by omega) λs hs=>DrF (lo:=p) (hi:=p+2) (P:=λs:Str=>s.b.length≤4) rfl (by dsimp only;omega) (by dsimp only;omega) (rA (by decide) hs)) λ_=>?_
 refine Dr.ite (λ_=>nm hb (by decide) (by omega) (by omega) λn hn=>?_) λ_=>?_
 ·obtain ⟨k,hk,rfl⟩:∃ k:Nat,k≤255∧n=(k:Int):=by
   simp only [List.mem_cons,List.not_mem_nil,or_false] at hn
   exact ⟨n.toNat,by omega,by omega⟩
  dsimp only
  rw [xM (by omega),obS]
  exact DrF (lo:=p) (hi:=p+2) (P:=λs:Str=>s.b.length≤4) rfl (by dsimp only;omega) (by dsimp only;omega) (by dsimp only;rw [(uz (by omega)).2];have:=yQ k (by omega);omega)
 refine Dr.ite (λ_=>?_) λ_=>?_
 ·unfold lu
  rw [obS]
  exact ofx hb (by decide) (by omega) (by omega) λs hs=>DrF (lo:=p) (hi:=p+2) (P:=λs:Str=>s.b.length≤4) rfl (by dsimp only;omega) (by dsimp only;omega) (rA (by decide) hs)
 ·exact ofx hb (by decide) (by omega) (by omega) λs hs=>DrF (lo:=p) (hi:=p+2) (P:=λs:Str=>s.b.length≤4) rfl (by dsimp only;omega) (by dsimp only;omega) (rA (by decide) hs)
theorem bg5 {b:List UInt8} (hb:b.length≤2000) {p:Int} (h0:0≤p) (h1:p≤800000):DrA (ob ⟨b,p⟩) b p (p+3) (λs=>s.b.length≤5):=by
 unfold ob
 refine pk hb h0 (by omega) λv _ _=>?_
 dsimp only
 refine Dr.ite (λ_=>ofx hb (by decide) (by omega) (by omega) λs hs=>DrF (lo:=p) (hi:=p+3) (P:=λs:Str=>s.b.length≤5) rfl (by dsimp only;omega) (by dsimp only;omega) (rA (by decide) hs)) λ_=>?_
 exact DrA.bind (ae5 hb (p:=p+1) (by omega) (by omega)) λs q g1 g2 g3=>DrF (lo:=p) (hi:=p+3) (P:=λs:Str=>s.b.length≤5) rfl (by dsimp only;omega) (by dsimp only;omega) (by dsimp only;omega)
def bd2 (s:Str):Prop:=s.b.length≤590∨∃ l,s.b=59::l
theorem ag5 {b:List UInt8} (hb:b.length≤2000) {p:Int} (h0:0≤p) (h1:p≤500000):Dr (nw ⟨b,p⟩) (λr=>bd2 r.1):=by
 unfold nw
 refine ofx hb (by decide) h0 (by omega) λs hs=>?_
 have hs2:=rA (n:=2) (by decide) hs
 dsimp only
 refine pk hb (by omega) (by omega) λv _ _=>?_
 dsimp only
 refine nm hb (by decide) (by omega) (by omega) λn hn=>?_
 have hn2:0≤n∧n≤20:=by
  simp only [List.mem_cons,List.not_mem_nil,or_false] at hn
  omega
 dsimp only
 refine Dr.bind (P:=λt:Int × Str=>p≤t.1∧t.1≤p+203∧t.2.b.length≤150) ?_ λt ht=>?_
 ·refine Dr.bind (P:=λt:Int × Str=>p≤t.1∧t.1≤p+203∧t.2.b.length≤150) ?_ λt ht=>Dr.some ht
  refine Dr.loop (I:=λst:Int × Str × Int=>p≤st.1∧st.1+10*st.2.2≤p+203∧0≤st.2.2∧(st.2.1.b.length:Int)+7*st.2.2≤150) (λst=>st.2.2.toNat) ⟨by dsimp only;omega,by dsimp only;omega,hn2.1,by dsimp only;omega⟩ ?_
  rintro ⟨q,t,m⟩ ⟨i1,i2,i3,i4⟩
  dsimp only at i1 i2 i3 i4 ⊢
  by_cases hm:0<m
  ·rw [if_pos (by simpa using hm)]
   refine Dr.bind (P:=λu:Int × Str=>q≤u.1∧u.1≤q+3∧u.2.b.length≤t.b.length+5) ?_ λu hu=>?_
   ·refine Dr.ite (λ_=>?_) λ_=>?_
    ·refine DrA.bind (bg5 hb (p := q) (by omega) (by omega)) fun x q2 k1 k2 k3 => ?_
     obtain ⟨y,y1,y2⟩:=j5 (s:=t) (t:=x) (by omega)
     dsimp only
     rw [y1]
     refine Dr.some ⟨k1,k2,?_⟩
     dsimp only
     rw [y2,List.length_append];omega
    ·refine DrA.bind (ae5 hb (p := q) (by omega) (by omega)) fun x q2 k1 k2 k3 => ?_
     obtain ⟨y,y1,y2⟩:=j5 (s:=t) (t:=x) (by omega)
     dsimp only
     rw [y1]
     refine Dr.some ⟨k1,by dsimp only;omega,?_⟩
     dsimp only
     rw [y2,List.length_append];omega
   ·obtain ⟨u1,u2,u3⟩:=hu
    refine ofx hb (by decide) (by omega) (by omega) λx hx=>?_
    have hx2:=rA (n:=2) (by decide) hx
    obtain ⟨y,y1,y2⟩:=j5 (s:=u.2) (t:=x) (by omega)
    have hy:=congrArg List.length y2
    rw [List.length_append] at hy
    have hw:w64 (m - 1)=m - 1:=hO (by omega) (by omega)
    dsimp only
    rw [y1,hw]
    refine Dr.some (And.intro (λz hz=>?_) λz hz=>by cases hz)
    simp only [Sum.inl.injEq] at hz
    subst hz
    dsimp only
    exact ⟨⟨by omega,by omega,by omega,by omega⟩,by omega⟩
  ·rw [if_neg (by simpa using hm)]
   refine Dr.some (And.intro (λz hz=>by cases hz) λz hz=>?_)
   simp only [Sum.inr.injEq] at hz
   subst hz
   exact ⟨i1,by dsimp only;omega,by dsimp only;omega⟩
 obtain ⟨t1,t2,t3⟩:=ht
 refine pk hb (by omega) (by omega) λv2 _ _=>?_
 dsimp only
 refine Dr.ite (λ_=>?_) λ_=>Dr.some (.inl (by dsimp only;omega))
 refine nm hb (by decide) (by omega) (by omega) λk hk=>?_
 have hk2:600≤k∧k≤601:=by
  simp only [List.mem_cons,List.not_mem_nil,or_false] at hk
  omega
 obtain ⟨x,x1,x2,x3⟩:=ab5 (s:=mkS [59]) (c:=59) rfl (n:=k) (by omega) (by omega)
 dsimp only
 rw [x1,obS]
 refine nm hb (by decide) (by omega) (by omega) λj hj=>?_
 have hj2:0≤j∧j≤2401:=by
  simp only [List.mem_cons,List.not_mem_nil,or_false] at hj
  omega
 obtain ⟨y,y1,y2,y3⟩:=ab5 (s:=mkS [32]) (c:=32) rfl (n:=j) (by omega) (by omega)
 obtain ⟨z,z1,z2⟩:=j5 (s:=x) (t:=y) (by omega)
 dsimp only
 rw [y1,obS,z1,obS]
 refine Dr.some (.inr ?_)
 dsimp only
 rw [z2]
 match hx:x.b,x2,x3 with
 | [],h,_=>simp at h;omega
 | a::l,_,h =>
  have:a=59:=h a (by simp)
  subst this
  exact ⟨_,rfl⟩
end Prg
end Go.Wk
namespace Go.Wk
open Go
namespace Prg
set_option maxRecDepth 10000
theorem bf3 {ws:List eu} (hv:vW ws) (hl:ws.length≤1000) {lv:Int} {e e':ey} {r r':List eu} (h:Rd (.E lv ws e r)) (h':Rd (.E lv ws e' r')):e=e'∧r=r':=by
 have h1:=pD h hv hl
 have h2:=pD h' hv hl
 rw [h1] at h2
 simp only [osI,Prod.mk.injEq,ez.mk.injEq] at h2
 exact ⟨h2.1,h2.2.1⟩
open Classical in
noncomputable def rE (ws:List eu):Option (ey × List eu):=if h:∃ p:ey × List eu,Rd (.E 1 ws p.1 p.2) then some h.choose else none
theorem vm {ws:List eu} {e:ey} {r:List eu} (h:rE ws=some (e,r)):Rd (.E 1 ws e r):=by
 unfold rE at h
 split at h
 ·rename_i hx
  have:=hx.choose_spec
  rw [Option.some.inj h] at this
  exact this
 ·cases h
theorem ba8 {ws:List eu} (hv:vW ws) (hl:ws.length≤1000) {e:ey} {r:List eu} (h:Rd (.E 1 ws e r)):rE ws=some (e,r):=by
 unfold rE
 have hx:∃ p:ey × List eu,Rd (.E 1 ws p.1 p.2):=⟨(e,r),h⟩
 rw [dif_pos hx]
 obtain ⟨h1,h2⟩:=bf3 hv hl hx.choose_spec h
 rw [← h1,← h2]
theorem ac0 {ws:List eu} (hv:vW ws) (hl:ws.length≤1000) (h:rE ws=none):ao4 1 ws:=by
 rcases av5 ws.length ws (Nat.le_refl _) hl hv 1 (by omega) with ⟨e,r,hr⟩ | hf
 ·rw [ba8 hv hl hr] at h;cases h
 ·exact hf
def wy:Str:=mkS [108,101,116]
def xJ:Str:=mkS [115,97,121]
def xF:Str:=mkS [112,117,116]
def tIf:Str:=mkS [105,102]
def og:Str:=mkS [101,108,115,101]
def rQ:Str:=mkS [108,111,111,112]
def rP:Str:=mkS [98,97,99,107]
def tDo:Str:=mkS [100,111]
def tFn:Str:=mkS [102,110]
def opK (t:Str):Int:=if t=wy then 1 else if t=xJ then 3 else if t=xF then 4 else if t=tIf then 5 else if t=rQ then 6 else if t=rP then 7 else if t=tDo then 8 else 0
def wT (t:Str) (ws:List eu):Option (List eu):=if isT ws t then some ws.tail else none
def nT (ws:List eu):Option (Str × List eu):=match ws with
 | []=>none
 | w::r=>if w.kind=1 then some (w.text,r) else none
def kK (ws:List eu):Option (Int × Str × List eu):=match ws with
 | []=>none
 | w :: r => if opK w.text = 0 then (if w.kind = 1 then (wT (mkS [61]) r).map fun q => (2, w.text, q) else none)
  else if opK w.text=1 then (nT r).bind λp=>(wT (mkS [61]) p.2).map λq=>(1,p.1,q)
  else some (opK w.text,mkS [],r)
mutual
noncomputable def pS:Nat→List eu→Option (fB × List eu)
 | 0,_=>none
 | k+1,ws=>(kK ws).bind λh=>(rE h.2.2).bind λa =>
  if h.1=4 then (wT (mkS [44]) a.2).bind λq=>(rE q).bind λb=>(wT (mkS [59]) b.2).map λr=>(⟨4,h.2.1,[a.1,b.1],[],[]⟩,r)
  else if h.1=5 then (pK k a.2).bind λb=>if isT b.2 og then (pK k b.2.tail).map λc=>(⟨5,h.2.1,[a.1],b.1,c.1⟩,c.2) else some (⟨5,h.2.1,[a.1],b.1,[]⟩,b.2)
  else if h.1=6 then (pK k a.2).map λb=>(⟨6,h.2.1,[a.1],b.1,[]⟩,b.2)
  else (wT (mkS [59]) a.2).map λr=>(⟨h.1,h.2.1,[a.1],[],[]⟩,r)
noncomputable def pK:Nat→List eu→Option (List fB × List eu)
 | 0,_=>none
 | k+1,ws=>(wT (mkS [123]) ws).bind λq=>pB k [] q
noncomputable def pB:Nat→List fB→List eu→Option (List fB × List eu)
 | 0,_,_=>none
 | k+1,acc,ws=>if isT ws (mkS [125]) then some (acc,ws.tail) else (pS k ws).bind λs=>pB k (acc++[s.1]) s.2
end
noncomputable def pP:Nat→List Str→List eu→Option (List Str × List eu)
 | 0,_,_=>none
 | k+1,acc,ws=>if isT ws (mkS [41]) then some (acc,ws.tail) else ((if acc=[] then some ws else wT (mkS [44]) ws).bind nT).bind λp=>pP k (acc++[p.1]) p.2
noncomputable def pF (k:Nat) (ws:List eu):Option (Fn_ × List eu):=(wT tFn ws).bind λa=>(nT a).bind λb=>(wT (mkS [40]) b.2).bind λc=>(pP k [] c).bind λd=>(pK k d.2).map λq=>(⟨b.1,d.1,q.1⟩,q.2)
noncomputable def pG (k0:Nat):Nat→List Fn_→List eu→Option (List Fn_)
 | 0,_,_=>none
 | k+1,acc,ws=>if ws=[] then some acc else (pF k0 ws).bind λp=>pG k0 k (acc++[p.1]) p.2
def Suf (r ws:List eu):Prop:=r.length≤ws.length∧∀ x∈r,x∈ws
def jo (r ws:List eu):Prop:=r.length<ws.length∧∀ x∈r,x∈ws
theorem jo.le {r ws:List eu} (h:jo r ws):Suf r ws:=⟨Nat.le_of_lt h.1,h.2⟩
theorem Suf.trans {a b c:List eu} (h:Suf a b) (h':Suf b c):Suf a c:=⟨Nat.le_trans h.1 h'.1,λx hx=>h'.2 x (h.2 x hx)⟩
theorem jo.trans {a b c:List eu} (h:Suf a b) (h':jo b c):jo a c:=⟨Nat.lt_of_le_of_lt h.1 h'.1,λx hx=>h'.2 x (h.2 x hx)⟩
theorem Suf.vW {r ws:List eu} (h:Suf r ws) (hv:Prg.vW ws):Prg.vW r:=λx hx=>hv x (h.2 x hx)
theorem mH (w:eu) (r:List eu):jo r (w::r):=⟨by simp,λx hx=>by simp [hx]⟩
theorem jT {t:Str} {ws q:List eu} (h:wT t ws=some q):jo q ws:=by
 unfold wT at h
 cases ws with
 | nil=>simp [isT] at h
 | cons w r =>
  split at h
  ·cases h;exact mH w r
  ·cases h
theorem oo {ws q:List eu} {n:Str} (h:nT ws=some (n,q)):jo q ws:=by
 unfold nT at h
 cases ws with
 | nil=>cases h
 | cons w r =>
  dsimp only at h
  split at h
  ·cases h;exact mH _ _
  ·cases h
theorem qn {ws r:List eu} {e:ey} (h:rE ws=some (e,r)):jo r ws:=ma (vm h)
theorem tD {ws q:List eu} {op:Int} {n:Str} (h:kK ws=some (op,n,q)):jo q ws:=by
 unfold kK at h
 cases ws with
 | nil=>cases h
 | cons w r =>
  dsimp only at h
  split at h
  ·split at h
   ·obtain ⟨q',h1,h2⟩:=Option.map_eq_some_iff.1 h
    cases h2
    exact jo.trans (jT h1).le (mH w r)
   ·cases h
  ·split at h
   ·obtain ⟨p,h1,h2⟩:=Option.bind_eq_some_iff.1 h
    obtain ⟨q',h3,h4⟩:=Option.map_eq_some_iff.1 h2
    cases h4
    exact jo.trans ((jT h3).le.trans (oo (n:=p.1) (q:=p.2) h1).le) (mH w r)
   ·cases h
    exact mH w _
theorem oS:∀ k:Nat,(∀ ws s r,pS k ws=some (s,r)→jo r ws)∧(∀ ws b r,pK k ws=some (b,r)→jo r ws)∧(∀ acc ws b r,pB k acc ws=some (b,r)→jo r ws):=by
 intro k
 induction k with
 | zero=>exact ⟨λws s r h=>(by rw [pS] at h;cases h),λws s r h=>(by rw [pK] at h;cases h),λacc ws s r h=>(by rw [pB] at h;cases h)⟩
 | succ k ih =>
  obtain ⟨i1,i2,i3⟩:=ih
  refine ⟨λws s r h=>?_,λws b r h=>?_,λacc ws b r h=>?_⟩
  ·rw [pS] at h
   obtain ⟨⟨op,nm,q⟩,h1,h⟩:=Option.bind_eq_some_iff.1 h
   obtain ⟨⟨e,q2⟩,h2,h⟩:=Option.bind_eq_some_iff.1 h
   have s1:=tD h1
   have s2:jo q2 ws:=jo.trans (qn h2).le s1
   dsimp only at h h2
   split at h
   ·obtain ⟨q3,h3,h⟩:=Option.bind_eq_some_iff.1 h
    obtain ⟨⟨e2,q4⟩,h4,h⟩:=Option.bind_eq_some_iff.1 h
    obtain ⟨q5,h5,h⟩:=Option.map_eq_some_iff.1 h
    cases h
    exact jo.trans ((jT h5).le.trans ((qn h4).le.trans (jT h3).le)) s2
   ·split at h
    ·obtain ⟨⟨b,q3⟩,h3,h⟩:=Option.bind_eq_some_iff.1 h
     dsimp only at h
     split at h
     ·rename_i ht
      obtain ⟨⟨c,q4⟩,h4,h⟩:=Option.map_eq_some_iff.1 h
      cases h
      have:Suf q3.tail q3:=by
       cases q3 with
       | nil=>exact ⟨Nat.le_refl _,λx hx=>hx⟩
       | cons y z=>exact (mH y z).le
      exact jo.trans ((i2 _ _ _ h4).le.trans (this.trans (i2 _ _ _ h3).le)) s2
     ·cases h
      exact jo.trans (i2 _ _ _ h3).le s2
    ·split at h
     ·obtain ⟨⟨b,q3⟩,h3,h⟩:=Option.map_eq_some_iff.1 h
      cases h
      exact jo.trans (i2 _ _ _ h3).le s2
     ·obtain ⟨q3,h3,h⟩:=Option.map_eq_some_iff.1 h
      cases h
      exact jo.trans (jT h3).le s2
  ·rw [pK] at h
   obtain ⟨q,h1,h⟩:=Option.bind_eq_some_iff.1 h
   exact jo.trans (i3 _ _ _ _ h).le (jT h1)
  ·rw [pB] at h
   split at h
   ·rename_i ht
    cases h
    cases ws with
    | nil=>cases ht
    | cons w r=>exact mH w r
   ·obtain ⟨⟨s,q⟩,h1,h⟩:=Option.bind_eq_some_iff.1 h
    exact jo.trans (i3 _ _ _ _ h).le (i1 _ _ _ h1)
theorem rj:∀ (k:Nat) (acc:List Str) (ws:List eu) (ps:List Str) (r:List eu),pP k acc ws=some (ps,r)→jo r ws
 | 0,acc,ws,ps,r,h=>by rw [pP] at h;cases h
 | k+1,acc,ws,ps,r,h=>by
  rw [pP] at h
  split at h
  ·rename_i ht
   cases h
   cases ws with
   | nil=>cases ht
   | cons w r=>exact mH w r
  ·obtain ⟨⟨n,q⟩,h1,h⟩:=Option.bind_eq_some_iff.1 h
   obtain ⟨q2,h2,h3⟩:=Option.bind_eq_some_iff.1 h1
   have:Suf q2 ws:=by
    split at h2
    ·cases h2;exact ⟨Nat.le_refl _,λx hx=>hx⟩
    ·exact (jT h2).le
   have s1:=oo h3
   exact jo.trans (rj k _ _ _ _ h).le ⟨Nat.lt_of_lt_of_le s1.1 this.1,λx hx=>this.2 x (s1.2 x hx)⟩
theorem xa {k:Nat} {ws r:List eu} {f:Fn_} (h:pF k ws=some (f,r)):jo r ws:=by
 unfold pF at h
 obtain ⟨a,h1,h⟩:=Option.bind_eq_some_iff.1 h
 obtain ⟨⟨n,b⟩,h2,h⟩:=Option.bind_eq_some_iff.1 h
 obtain ⟨c,h3,h⟩:=Option.bind_eq_some_iff.1 h
 obtain ⟨⟨ps,d⟩,h4,h⟩:=Option.bind_eq_some_iff.1 h
 obtain ⟨⟨q,r'⟩,h5,h⟩:=Option.map_eq_some_iff.1 h
 cases h
 exact jo.trans (((oS k).2.1 _ _ _ h5).le.trans ((rj _ _ _ _ _ h4).le.trans ((jT h3).le.trans (oo h2).le))) (jT h1)
end Prg
end Go.Wk
