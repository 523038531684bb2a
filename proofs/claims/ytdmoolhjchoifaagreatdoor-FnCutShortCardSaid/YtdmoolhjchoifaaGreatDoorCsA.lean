/- A part of the proof of FnCutShortCardSaid. -/
import Derived.Test.YtdmoolhjchoifaaGreatDoorCsModels
import Derived.Test.YtdmoolhjchoifaaGreatDoorWkN
import Derived.Test.YtdmoolhjchoifaaGreatDoorWkY
import Derived.Laws.RangeString
import Derived.Laws.RangeAny
import Derived.Test.YtdmoolhjchoifaaGreatDoorWkAd
namespace Go.Wk
open Go
namespace Prg
set_option maxRecDepth 10000
def letB (b:UInt8):Bool:=decide ((97:UInt8)≤b)&&decide (b≤(122:UInt8))
def digB (b:UInt8):Bool:=decide ((48:UInt8)≤b)&&decide (b≤(57:UInt8))
def sgnL:List UInt8:=[40,41,123,125,59,44,43,45,42,47,37,60,61,38,33,64]
def clsB (b:UInt8):Int:=if letB b then 1 else if digB b then 2 else if b∈sgnL then 3 else if b=32∨b=10 then 4 else 0
theorem letter_ok (b:UInt8):impl_isLetter b=some (letB b):=by
 unfold impl_isLetter letB
 by_cases h:(97:UInt8)≤b<;>simp [h]
theorem digit_ok (b:UInt8):impl_isDigit b=some (digB b):=by
 unfold impl_isDigit digB
 by_cases h:(48:UInt8)≤b<;>simp [h]
theorem find_ok (s:Str) (c:UInt8):∃ n:Int,spec_l30Find s c=some n∧(0≤n↔c∈s.b):=by
 unfold spec_l30Find
 rcases forN_find (xs:=s.b) (body:=(λ(i1_1:Int) (xs1_1:Unit)=>(Option.bind (getI (s).b i1_1) λx1_1=>if decide (x1_1=c) then some (.inr i1_1) else some (.inl ()):Option ((Unit) ⊕ (Int))))) (λx=>decide (x=c)) (λi=>i) (λl x r he=>by
  rw [he,getI_mid,Option.bind_some]) with ⟨h1,h2⟩ | ⟨l,x,r,h1,h2,h3,h4⟩
 ·refine ⟨-1, bindt h2 rfl, ⟨fun h => by omega, fun h => ?_⟩⟩
  have:=List.any_eq_false.1 h1 c h
  simp at this
 ·refine ⟨_, bindt h4 rfl, ⟨fun _ => ?_, fun _ => by omega⟩⟩
  simp at h3;subst h3
  rw [h1];simp
theorem class_ok (b:UInt8):spec_l1Class b=some (clsB b):=by
 obtain ⟨n,h1,h2⟩:=find_ok (mkS [40,41,123,125,59,44,43,45,42,47,37,60,61,38,33,64]) b
 have e1:(if decide ((97:UInt8)≤b) then some (decide (b≤(122:UInt8))) else some false:Option Bool)=some (letB b):=by unfold letB;by_cases h:(97:UInt8)≤b<;>simp [h]
 have e2:(if decide ((48:UInt8)≤b) then some (decide (b≤(57:UInt8))) else some false:Option Bool)=some (digB b):=by unfold digB;by_cases h:(48:UInt8)≤b<;>simp [h]
 have e3:(if decide (b=(32:UInt8)) then some true else some (decide (b=(10:UInt8))):Option Bool)=some (decide (b=32∨b=10)):=by by_cases h:b=32<;>simp [h]
 have h3:(0≤n)↔b∈sgnL:=h2
 unfold spec_l1Class clsB
 rw [e1,e2,e3,h1]
 simp only [Option.bind_some]
 cases letB b with
 | true=>rfl
 | false =>
  cases digB b with
  | true=>rfl
  | false =>
   by_cases h:b∈sgnL
   ·simp [h,h3.2 h]
   ·have:¬ 0≤n:=λh'=>h (h3.1 h')
    simp only [Bool.false_eq_true,if_false,h,this,decide_false]
    by_cases h5:b=32∨b=10<;>simp [h5]
def keyB (s:Str):Bool:=decide (s∈glob_impl_keys)
theorem has_ok (xs:List Str) (v:Str):slices_Contains_S_string_string xs v=some (decide (v∈xs)):=by
 unfold slices_Contains_S_string_string slices_Index_S_string_string
 rcases forN_find (xs:=xs) (body:=(λ(i1_1:Int) (xs1_1:Unit)=>(Option.bind (getI xs i1_1) λx1_1=>if decide (v=x1_1) then some (.inr i1_1) else some (.inl ()):Option ((Unit) ⊕ (Int))))) (λx=>decide (v=x)) (λi=>i) (λl x r he=>by
  rw [he,getI_mid,Option.bind_some]) with ⟨h1,h2⟩ | ⟨l,x,r,h1,h2,h3,h4⟩
 ·rw [bindt (b:=some (-1)) h2 rfl,Option.bind_some]
  have:v ∉ xs:=λh=>by have:=List.any_eq_false.1 h1 v h;simp at this
  simp [this]
 ·rw [bindt (b:=some (l.length:Int)) h4 rfl,Option.bind_some]
  simp at h3;subst h3
  have:v∈xs:=by rw [h1];simp
  simp [this]
theorem key_ok (s:Str):spec_l1Key s=some (keyB s):=by
 unfold spec_l1Key spec_KeyWords keyB
 rw [Option.bind_some]
 show Option.bind (forN (λ(i1_1:Int) (xs1_1:Unit)=>(Option.bind (getI glob_impl_keys i1_1) λx1_1=>if decide (x1_1=s) then some (.inr true) else some (.inl ()):Option ((Unit) ⊕ (Bool)))) (((glob_impl_keys.length:Int):Int) - 0).toNat 0 ()) _=_
 rw [bindc (forN_any (xs:=glob_impl_keys) (body:=(λ(i1_1:Int) (xs1_1:Unit)=>(Option.bind (getI glob_impl_keys i1_1) λx1_1=>if decide (x1_1=s) then some (.inr true) else some (.inl ()):Option ((Unit) ⊕ (Bool))))) (λx=>decide (x=s)) true (λl x r he=>by rw [he,getI_mid,Option.bind_some]))]
 cases h:glob_impl_keys.any (λx=>decide (x=s)) with
 | true =>
  obtain ⟨x,h1,h2⟩:=List.any_eq_true.1 h
  simp at h2;subst h2
  simp [h1]
 | false =>
  have:s ∉ glob_impl_keys:=λh'=>by have:=List.any_eq_false.1 h s h';simp at this
  simp [this]
def nameB (s:Str):Bool:=decide (s.b≠[])&&s.b.all letB&&decide (s.b.length≤4)&&!keyB s
theorem all_ok (s:Str) (c:Int):spec_l1All s c=some (s.b.all (λb=>decide (clsB b=c))&&decide (s.b≠[])):=by
 unfold spec_l1All
 rw [bindc (forN_any (xs:=s.b) (body:=(λ(i1_1:Int) (xs1_1:Unit)=>(Option.bind (getI (s).b i1_1) λx1_1=>Option.bind (spec_l1Class x1_1) λr1_1=>if decide (r1_1≠c) then some (.inr false) else some (.inl ()):Option ((Unit) ⊕ (Bool))))) (λb=>decide (clsB b≠c)) false (λl x r he=>by
  rw [he,getI_mid,Option.bind_some,class_ok,Option.bind_some]))]
 have e:s.b.any (λb=>decide (clsB b≠c))=!s.b.all (λb=>decide (clsB b=c)):=by
  rw [List.not_all_eq_any_not];congr 1;funext b;simp
 rw [e]
 have h0:decide (0<(s.b.length:Int))=decide (s.b≠[]):=by
  cases s.b<;>simp
 cases s.b.all (λb=>decide (clsB b=c)) with
 | true =>
  show some (decide (0<(s.b.length:Int)))=_
  rw [h0,Bool.true_and]
 | false=>rfl
theorem cls1 (b:UInt8):decide (clsB b=1)=letB b:=by
 cases h1:letB b<;>cases h2:digB b<;>by_cases h3:b∈sgnL<;>by_cases h4:b=32∨b=10<;>simp [clsB,h1,h2,h3,h4]
theorem nameS_ok (s:Str):spec_IsName s=some (nameB s):=by
 unfold spec_IsName
 rw [all_ok,key_ok]
 have e:s.b.all (λb=>decide (clsB b=1))=s.b.all letB:=by congr 1;funext b;exact cls1 b
 have e2:decide ((s.b.length:Int)≤4)=decide (s.b.length≤4):=by rw [decide_eq_decide];omega
 rw [e,e2]
 unfold nameB
 cases s.b.all letB<;>cases decide (s.b≠[])<;>cases decide (s.b.length≤4)<;>rfl
theorem let_iff {b:UInt8}:letB b=true↔97≤b.toNat∧b.toNat≤122:=by
 unfold letB
 rw [Bool.and_eq_true,decide_eq_true_iff,decide_eq_true_iff,UInt8.le_iff_toNat_le,UInt8.le_iff_toNat_le]
 rfl
theorem rune_ok (x:Int):impl_IsName_1 x=some (decide (x<97∨122<x)):=by
 unfold impl_IsName_1
 by_cases h:x<97<;>simp [h]
theorem idx_names (s:ByteArray) (p:Nat→Bool) (hp:∀ x:Nat,p x=decide (x<97∨122<x)):∀ (f pos:Nat),s.size - pos≤f→pos≤s.size→(Lib.idxFuncFrom p true s f pos<0↔(s.data.toList.drop pos).all letB=true):=by
 have hsz:s.data.toList.length=s.size:=by rw [Array.length_toList];rfl
 intro f
 induction f with
 | zero =>
  intro pos h h2
  have:pos=s.size:=by omega
  subst this
  have:s.data.toList.drop s.size=[]:=List.drop_eq_nil_of_le (by omega)
  rw [this]
  simp [Lib.idxFuncFrom]
 | succ f ih =>
  intro pos h h2
  unfold Lib.idxFuncFrom
  by_cases hlt:pos<s.size
  ·rw [if_pos hlt]
   have hl:pos<s.data.toList.length:=by omega
   have hd:s.data.toList.drop pos=s[pos]'hlt::s.data.toList.drop (pos+1):=by
    rw [List.drop_eq_getElem_cons hl];rfl
   rw [hd,List.all_cons]
   by_cases ha:(s[pos]'hlt).toNat<128
   ·rw [decode_ascii s pos hlt ha,hp]
    cases hb:letB (s[pos]'hlt) with
    | true =>
     have:=let_iff.1 hb
     rw [if_neg (by simp;omega),ih (pos+1) (by omega) (by omega)]
     simp
    | false =>
     have:¬ (97≤(s[pos]'hlt).toNat∧(s[pos]'hlt).toNat≤122):=λh=>by rw [let_iff.2 h] at hb;cases hb
     rw [if_pos (by simp;omega)]
     simp
   ·obtain ⟨h3, _⟩ := decode_high s pos hlt (by omega)
    rw [hp,if_pos (by simp;omega)]
    have:letB (s[pos]'hlt)=false:=by
     cases hb:letB (s[pos]'hlt) with
     | true=>have:=let_iff.1 hb;omega
     | false=>rfl
    rw [this]
    simp
  ·have : pos = s.size := by omega
   subst this
   have:s.data.toList.drop s.size=[]:=List.drop_eq_nil_of_le (by omega)
   rw [this,if_neg hlt]
   simp
theorem within_ok (n lo hi:Int):impl_within n lo hi=some (inB n lo hi):=by
 unfold impl_within inB
 by_cases h:lo≤n<;>simp [h]
theorem l1In_ok (n lo hi:Int):spec_l1In n lo hi=some (inB n lo hi):=by
 unfold spec_l1In inB
 by_cases h:lo≤n<;>simp [h]
theorem name_ok (s:Str):impl_IsName s=some (nameB s):=by
 have hi:∃ n:Int,strings_IndexFunc s (λy0=>impl_IsName_1 y0)=some n∧(n<0↔s.b.all letB=true):=by
  unfold strings_IndexFunc idxFuncM
  rw [if_pos λx _=>by show (impl_IsName_1 (x:Int)).isSome=true;rw [rune_ok];rfl]
  refine ⟨_,rfl,?_⟩
  have:=idx_names ⟨s.b.toArray⟩ (λx=>(impl_IsName_1 (x:Int)).getD false) (λx=>by show (impl_IsName_1 (x:Int)).getD false=_;rw [rune_ok];show decide _=decide _;rw [decide_eq_decide];omega) (⟨s.b.toArray⟩:ByteArray).size 0 (by omega) (by omega)
  simpa [Lib.idxFunc] using this
 obtain ⟨n,h1,h2⟩:=hi
 unfold impl_IsName
 rw [within_ok,h1,has_ok,Option.bind_some]
 simp only [Option.bind_some]
 have h3:inB (s.b.length:Int) 1 4=(decide (s.b≠[])&&decide (s.b.length≤4)):=by
  have e1:decide ((1:Int)≤(s.b.length:Int))=decide (s.b≠[]):=by
   rw [decide_eq_decide]
   constructor
   ·intro h h';rw [h'] at h;simp at h
   ·intro h
    have:=List.length_pos_iff.2 h
    omega
  have e2:decide ((s.b.length:Int)≤4)=decide (s.b.length≤4):=by rw [decide_eq_decide];omega
  show (decide ((1:Int)≤(s.b.length:Int))&&decide ((s.b.length:Int)≤4))=_
  rw [e1,e2]
 have h4:decide (n<0)=s.b.all letB:=by
  cases hb:s.b.all letB with
  | true=>simp [h2.2 hb]
  | false =>
   have:¬ n<0:=λh=>by rw [h2.1 h] at hb;cases hb
   simp [this]
 rw [h3,h4]
 unfold nameB keyB
 cases s.b.all letB<;>cases decide (s.b≠[])<;>cases decide (s.b.length≤4)<;>rfl
end Prg
end Go.Wk
namespace Go.Wk
open Go
namespace Prg
set_option maxRecDepth 10000
def vD (acc:Nat) (l:List UInt8):Nat:=l.foldl (λn c=>n*10+(c.toNat - 48)) acc
theorem dig_iff {b:UInt8}:digB b=true↔48≤b.toNat∧b.toNat≤57:=by
 unfold digB
 rw [Bool.and_eq_true,decide_eq_true_iff,decide_eq_true_iff,UInt8.le_iff_toNat_le,UInt8.le_iff_toNat_le]
 rfl
theorem vD_ge:∀ (l:List UInt8) (acc:Nat),acc*10 ^ l.length≤vD acc l
 | [],acc=>by simp [vD]
 | c::l,acc=>by
  have h:=vD_ge l (acc*10+(c.toNat - 48))
  have e:vD acc (c::l)=vD (acc*10+(c.toNat - 48)) l:=rfl
  rw [e]
  refine Nat.le_trans ?_ h
  rw [List.length_cons,Nat.pow_succ,show acc*(10 ^ l.length*10)=(acc*10)*10 ^ l.length by rw [Nat.mul_comm (10 ^ l.length),Nat.mul_assoc]]
  exact Nat.mul_le_mul_right _ (Nat.le_add_right _ _)
theorem vD_lt:∀ (l:List UInt8) (acc:Nat),l.all digB=true→vD acc l<(acc+1)*10 ^ l.length
 | [],acc,_=>by simp [vD]
 | c::l,acc,h=>by
  rw [List.all_cons,Bool.and_eq_true,dig_iff] at h
  have h1:=vD_lt l (acc*10+(c.toNat - 48)) h.2
  have e:vD acc (c::l)=vD (acc*10+(c.toNat - 48)) l:=rfl
  rw [e]
  refine Nat.lt_of_lt_of_le h1 ?_
  rw [List.length_cons,Nat.pow_succ,show (acc+1)*(10 ^ l.length*10)=((acc+1)*10)*10 ^ l.length by rw [Nat.mul_comm (10 ^ l.length),Nat.mul_assoc]]
  exact Nat.mul_le_mul_right _ (by omega)
theorem vD_snoc (acc:Nat) (l:List UInt8) (c:UInt8):vD acc (l++[c])=vD acc l*10+(c.toNat - 48):=by simp [vD]
theorem decFrom_ok:∀ (l:List UInt8) (acc:Nat),l.all digB=true→Lib.decFrom acc l=some (vD acc l)
 | [],_,_=>rfl
 | c::l,acc,h=>by
  rw [List.all_cons,Bool.and_eq_true,dig_iff] at h
  have hd:Lib.digitVal c=some (c.toNat - 48):=by unfold Lib.digitVal;rw [if_pos h.1]
  show (match Lib.digitVal c with | some d=>Lib.decFrom (acc*10+d) l | none=>none)=_
  rw [hd]
  exact decFrom_ok l _ h.2
theorem atoi_digits {s:Str} (h0:s.b≠[]) (hl:s.b.length≤18) (h:s.b.all digB=true):strconv_Atoi s=some (((vD 0 s.b:Nat):Int),()):=by
 unfold strconv_Atoi atoiM
 rw [if_pos hl]
 obtain ⟨c,l,hc⟩:∃ c l,s.b=c::l:=by cases hs:s.b with | nil=>exact absurd hs h0 | cons c l=>exact ⟨c,l,rfl⟩
 have hd:Lib.decNat s.b=some (vD 0 s.b):=by
  unfold Lib.decNat
  rw [if_neg (by rw [hc];simp),decFrom_ok s.b 0 h]
 rw [hc] at hd h ⊢
 rw [List.all_cons,Bool.and_eq_true,dig_iff] at h
 have e1:(c == 45)=false:=by
  rw [beq_eq_false_iff_ne];rintro rfl;have:=h.1;simp at this
 have e2:(c == 43)=false:=by
  rw [beq_eq_false_iff_ne];rintro rfl;have:=h.1;simp at this
 show Option.map (λn=>(n,())) (if (c == 45)=true then (Lib.decNat l).map (λ(m:Nat)=>-(m:Int)) else if (c == 43)=true then (Lib.decNat l).map (λ(m:Nat)=>(m:Int)) else (Lib.decNat (c::l)).map (λ(m:Nat)=>(m:Int)))=_
 rw [e1,e2,hd]
 rfl
def zeroB (l:List UInt8):Bool:=decide (1<l.length)&&decide (l[0]?=some 48)
def numI (s:Str):Int:=if s.b≠[]∧s.b.all digB=true∧zeroB s.b=false∧vD 0 s.b≤255 then (vD 0 s.b:Nat) else -1
theorem num_long {l:List UInt8} (hz:zeroB l=false) (hd:l.all digB=true) (hl:4≤l.length):255<vD 0 l:=by
 cases l with
 | nil=>simp at hl
 | cons c l =>
  rw [List.all_cons,Bool.and_eq_true,dig_iff] at hd
  have h1:c≠48:=by
   rintro rfl
   unfold zeroB at hz
   simp at hz
   simp at hl
   rw [hz] at hl
   simp at hl
  have h2:c.toNat≠48:=λe=>h1 (UInt8.toNat_inj.1 e)
  have h3:=vD_ge l (c.toNat - 48)
  have e:vD 0 (c::l)=vD (c.toNat - 48) l:=by show vD (0*10+(c.toNat - 48)) l=_;rw [Nat.zero_mul,Nat.zero_add]
  rw [e]
  simp at hl
  have h4:10 ^ 3≤10 ^ l.length:=Nat.pow_le_pow_right (by decide) hl
  have h5:1*10 ^ l.length≤(c.toNat - 48)*10 ^ l.length:=Nat.mul_le_mul_right _ (by omega)
  omega
theorem decimal_ok (s:Str):impl_decimal s 255=some (numI s):=by
 unfold impl_decimal
 by_cases h0:s.b=[]
 ·have:s=mkS []:=Str.ext' h0
  subst this
  simp [numI,mkS]
 have h0':s≠mkS []:=λe=>h0 (by rw [e];rfl)
 obtain ⟨c,l,hc⟩:∃ c l,s.b=c::l:=by cases hs:s.b with | nil=>exact absurd hs h0 | cons c l=>exact ⟨c,l,rfl⟩
 have hg:getI s.b 0=some c:=by rw [hc];rfl
 have hz:(if decide (1<(s.b.length:Int)) then Option.bind (getI s.b 0) λx1_1=>some (decide (x1_1=(48:UInt8))) else some false:Option Bool)=some (zeroB s.b):=by
  unfold zeroB
  rw [hg,Option.bind_some]
  have:decide (s.b[0]?=some 48)=decide (c=48):=by rw [hc];simp
  rw [this]
  have e:decide (1<(s.b.length:Int))=decide (1<s.b.length):=by rw [decide_eq_decide];omega
  rw [e]
  cases decide (1<s.b.length)<;>rfl
 rw [hz]
 simp only [h0',decide_false,Bool.false_eq_true,if_false]
 by_cases h5:5<(s.b.length:Int)
 ·simp only [h5,decide_true,if_true,Option.bind_some]
  unfold numI
  rw [if_neg]
  rintro ⟨_,h2,h3,h4⟩
  have:=num_long h3 h2 (by omega)
  omega
 ·simp only [h5,decide_false,Bool.false_eq_true,if_false,Option.bind_some]
  cases hzb:zeroB s.b with
  | true =>
   simp only [if_true]
   unfold numI
   rw [if_neg]
   rintro ⟨_,_,h3,_⟩
   rw [hzb] at h3;cases h3
  | false =>
   simp only [Bool.false_eq_true,if_false]
   rw [bindc (forN_any (xs:=s.b) (body:=(λ(i1_1:Int) (xs1_1:Unit)=>(Option.bind (getI (s).b i1_1) λx1_2=>Option.bind (impl_isDigit x1_2) λr1_1=>if !(r1_1) then some (.inr (-1)) else some (.inl ()):Option ((Unit) ⊕ (Int))))) (λb=>!digB b) (-1) (λl x r he=>by
    rw [he,getI_mid,Option.bind_some,digit_ok,Option.bind_some]))]
   have e:s.b.any (λb=>!digB b)=!s.b.all digB:=by rw [List.not_all_eq_any_not]
   rw [e]
   cases hd:s.b.all digB with
   | false =>
    show some (-1:Int)=_
    unfold numI
    rw [if_neg]
    rintro ⟨_,h2,_⟩
    rw [hd] at h2;cases h2
   | true =>
    show Option.bind (strconv_Atoi s) _=_
    rw [atoi_digits h0 (by omega) hd,Option.bind_some]
    unfold numI
    by_cases h:vD 0 s.b≤255
    ·have e3 : ¬ (255 : Int) < ((vD 0 s.b : Nat) : Int) := by omega
     simp only [e3,decide_false,Bool.false_eq_true,if_false]
     rw [if_pos ⟨h0,hd,hzb,h⟩]
    ·have e3 : (255 : Int) < ((vD 0 s.b : Nat) : Int) := by omega
     simp only [e3,decide_true,if_true]
     rw [if_neg (λh'=>h h'.2.2.2)]
theorem u8sub {b:UInt8} (h:digB b=true):(b - (48:UInt8)).toNat=b.toNat - 48:=by
 have:=dig_iff.1 h
 rw [UInt8.toNat_sub]
 have h48:(48:UInt8).toNat=48:=rfl
 omega
theorem num_loop {s:Str} (hl:s.b.length≤17):forN (λ(i1_1:Int) (xs1_1:Int)=>(Option.bind (Option.bind (getI (s).b i1_1) λx2_1=>if decide (x2_1<(48:UInt8)) then some true else Option.bind (getI (s).b i1_1) λx2_2=>some (decide ((57:UInt8)<x2_2)):Option (Bool)) λs1_1=>if s1_1 then some (.inr (0,false)) else Option.bind (getI (s).b i1_1) λx1_4=>some (.inl (w64 ((w64 (xs1_1*10))+((((x1_4 - (48:UInt8))).toNat:Int))))):Option ((Int) ⊕ (Int × Bool)))) (((s.b.length:Int):Int) - 0).toNat 0 0=if s.b.all digB then some (.inl ((vD 0 s.b:Nat):Int)) else some (.inr ((0:Int),false)):=by
 rcases forN_list (xs:=s.b) (body:=(λ(i1_1:Int) (xs1_1:Int)=>(Option.bind (Option.bind (getI (s).b i1_1) λx2_1=>if decide (x2_1<(48:UInt8)) then some true else Option.bind (getI (s).b i1_1) λx2_2=>some (decide ((57:UInt8)<x2_2)):Option (Bool)) λs1_1=>if s1_1 then some (.inr (0,false)) else Option.bind (getI (s).b i1_1) λx1_4=>some (.inl (w64 ((w64 (xs1_1*10))+((((x1_4 - (48:UInt8))).toNat:Int))))):Option ((Int) ⊕ (Int × Bool))))) (s:=(0:Int)) (λl x=>l.all digB=true∧x=((vD 0 l:Nat):Int)) (λy=>y=((0:Int),false)∧s.b.all digB=false) ⟨rfl,rfl⟩ (λl c r x he hI=>by
  obtain ⟨h1,rfl⟩:=hI
  have hlen:=congrArg List.length he
  simp at hlen
  rw [he,getI_mid,Option.bind_some,Option.bind_some,Option.bind_some]
  have hc1:(if decide (c<(48:UInt8)) then some true else some (decide ((57:UInt8)<c)):Option Bool)=some (!digB c):=by
   unfold digB
   have a1:decide ((48:UInt8)≤c)=!decide (c<(48:UInt8)):=by
    rw [← decide_not,decide_eq_decide];exact UInt8.not_lt.symm
   have a2:decide (c≤(57:UInt8))=!decide ((57:UInt8)<c):=by
    rw [← decide_not,decide_eq_decide];exact UInt8.not_lt.symm
   rw [a1,a2]
   cases decide (c<(48:UInt8))<;>simp
  rw [hc1,Option.bind_some]
  cases hd:digB c with
  | false =>
   refine .inr ⟨_,rfl,rfl,?_⟩
   rw [List.all_append,List.all_cons,hd];simp
  | true =>
   refine .inl ⟨_,rfl,by rw [List.all_append,h1,List.all_cons,hd];rfl,?_⟩
   have hv:=vD_lt l 0 h1
   have hp:(10:Nat) ^ l.length≤10 ^ 16:=Nat.pow_le_pow_right (by decide) (by omega)
   have hcd:=dig_iff.1 hd
   rw [vD_snoc,u8sub hd,w64_id (n:=((vD 0 l:Nat):Int)*10) (by omega) (by omega),w64_id (by omega) (by omega)]
   omega) with ⟨x,h1,h2,rfl⟩ | ⟨y,h1,rfl,h2⟩
 ·rw [h1,h2];rfl
 ·rw [h1,h2];rfl
theorem l30Num_ok (s:Str):∃ n ok,spec_l30Num s=some (n,ok)∧(ok&&inB n 0 255)=decide (0≤numI s)∧(0≤numI s→n=numI s):=by
 have hneg:∀ {p:Prop},numI s=-1→(0≤numI s→p):=λh h'=>by omega
 unfold spec_l30Num
 cases hs:s.b with
 | nil =>
  have:numI s=-1:=by unfold numI;rw [hs];simp
  refine ⟨0,false,?_,by rw [this];rfl,hneg this⟩
  simp [hs]
 | cons c l =>
  have hg:getI (c::l) 0=some c:=rfl
  have h1:(if decide (0<((c::l).length:Int)) then Option.bind (getI (c::l) 0) λx1_1=>some (decide (x1_1=(45:UInt8))) else some false:Option Bool)=some (decide (c=45)):=by
   rw [if_pos (by simp),hg,Option.bind_some]
  rw [h1,Option.bind_some]
  have hz2:∀ (t:Str) (d:UInt8) (m:List UInt8) (ng:Bool),t.b=d::m→(if decide (((t).b.length:Int)=0) then some true else if decide (17<((t).b.length:Int)) then some true else Option.bind (getI (t).b 0) λx1_3=>if decide (x1_3=(48:UInt8)) then (if decide (1<((t).b.length:Int)) then some true else some ng) else some false:Option Bool)=some (decide (17<t.b.length)||(decide (d=48)&&(decide (1<t.b.length)||ng))):=λt d m ng ht=>by
   have hg2:getI t.b 0=some d:=by rw [ht];rfl
   have a0:¬ ((t.b.length:Int)=0):=by rw [ht];simp;omega
   have a1:decide (17<(t.b.length:Int))=decide (17<t.b.length):=by rw [decide_eq_decide];omega
   have a2:decide (1<(t.b.length:Int))=decide (1<t.b.length):=by rw [decide_eq_decide];omega
   simp only [a0,decide_false,Bool.false_eq_true,if_false,a1,a2,hg2,Option.bind_some]
   cases decide (17<t.b.length)<;>cases decide (d=48)<;>cases decide (1<t.b.length)<;>rfl
  by_cases hm:c=45
  ·subst hm
   have hI:numI s=-1:=by
    unfold numI
    rw [if_neg]
    rintro ⟨_,h2,_⟩
    rw [hs,List.all_cons] at h2
    simp [digB] at h2
   obtain ⟨t,ht,htb⟩:∃ t,subS s 1 (s.b.length:Int)=some t∧t.b=l:=by
    refine ⟨_,subS_some.2 ⟨⟨by omega,by rw [hs];simp;omega,by omega⟩,rfl⟩,?_⟩
    show ((s.b.take _).drop _)=l
    rw [hs];simp
   have hsub:(if decide ((45:UInt8)=45) then Option.bind (subS s 1 (((45:UInt8)::l).length:Int)) λx1_2=>some x1_2 else some s:Option Str)=some t:=by
    rw [hs] at ht
    rw [if_pos (by decide),ht];rfl
   rw [hsub,Option.bind_some]
   cases hl:l with
   | nil =>
    rw [hl] at htb
    refine ⟨0,false,?_,by rw [hI];rfl,hneg hI⟩
    simp [htb]
   | cons d m =>
    rw [hl] at htb
    rw [hz2 t d m _ htb,Option.bind_some]
    cases hb:(decide (17<t.b.length)||(decide (d=48)&&(decide (1<t.b.length)||decide ((45:UInt8)=45)))) with
    | true=>exact ⟨0,false,rfl,by rw [hI];rfl,hneg hI⟩
    | false =>
     simp only [Bool.or_eq_false_iff,decide_eq_false_iff_not] at hb
     simp only [Bool.false_eq_true,if_false]
     rw [bindc (num_loop (s:=t) (by omega))]
     cases hd:t.b.all digB with
     | false=>exact ⟨0,false,rfl,by rw [hI];rfl,hneg hI⟩
     | true =>
      have h48:d≠48:=by
       rintro rfl
       simp at hb
      rw [htb,List.all_cons,Bool.and_eq_true,dig_iff] at hd
      have hlen:t.b.length≤17:=by omega
      have hv:=vD_ge m (d.toNat - 48)
      have e:vD 0 t.b=vD (d.toNat - 48) m:=by rw [htb];show vD (0*10+(d.toNat - 48)) m=_;rw [Nat.zero_mul,Nat.zero_add]
      have h2:d.toNat≠48:=λe=>h48 (UInt8.toNat_inj.1 e)
      have h5:1*10 ^ m.length≤(d.toNat - 48)*10 ^ m.length:=Nat.mul_le_mul_right _ (by omega)
      have h6:0<10 ^ m.length:=Nat.pow_pos (by decide)
      have h7:=vD_lt t.b 0 (by rw [htb,List.all_cons,Bool.and_eq_true,dig_iff];exact hd)
      have h8:(10:Nat) ^ t.b.length≤10 ^ 17:=Nat.pow_le_pow_right (by decide) hlen
      refine ⟨-((vD 0 t.b:Nat):Int),true,?_,?_,hneg hI⟩
      ·have hw : w64 (0 - ((vD 0 t.b : Nat) : Int)) = -((vD 0 t.b : Nat) : Int) := by rw [w64_id (by omega) (by omega), Int.zero_sub]
       simp only [if_true,Option.bind_some,Sum.elim_inl,decide_true,hw]
      ·rw [hI]
       have h9:decide (0≤-((vD 0 t.b:Nat):Int))=false:=by rw [decide_eq_false_iff_not];omega
       unfold inB
       rw [h9];rfl
  ·have hsub : (if decide (c = 45) then Option.bind (subS s 1 ((c :: l).length : Int)) fun x1_2 => some x1_2 else some s : Option Str) = some s := by rw [if_neg (by simpa using hm)]
   rw [hsub,Option.bind_some,hz2 s c l _ hs,Option.bind_some]
   have hcm:decide (c=45)=false:=by simpa using hm
   rw [hcm,Bool.or_false]
   have hzb:zeroB s.b=(decide (c=48)&&decide (1<s.b.length)):=by
    unfold zeroB
    rw [Bool.and_comm,hs];simp
   rw [← hzb]
   cases hb:(decide (17<s.b.length)||zeroB s.b) with
   | true =>
    have hI:numI s=-1:=by
     unfold numI
     rw [if_neg]
     rintro ⟨_,h2,h3,h4⟩
     rw [h3,Bool.or_false,decide_eq_true_iff] at hb
     have:=num_long h3 h2 (by omega)
     omega
    exact ⟨0,false,rfl,by rw [hI];rfl,hneg hI⟩
   | false =>
    rw [Bool.or_eq_false_iff,decide_eq_false_iff_not] at hb
    simp only [Bool.false_eq_true,if_false]
    rw [bindc (num_loop (s:=s) (by omega))]
    cases hd:s.b.all digB with
    | false =>
     have hI:numI s=-1:=by
      unfold numI
      rw [if_neg]
      rintro ⟨_,h2,_⟩
      rw [hd] at h2;cases h2
     exact ⟨0,false,rfl,by rw [hI];rfl,hneg hI⟩
    | true =>
     refine ⟨((vD 0 s.b:Nat):Int),true,rfl,?_,λh=>?_⟩
     ·unfold numI
      by_cases h:vD 0 s.b≤255
      ·rw [if_pos ⟨by rw [hs]; simp, hd, hb.2, h⟩]
       have a:((vD 0 s.b:Nat):Int)≤255:=by omega
       simp [inB,a]
      ·rw [if_neg (λh'=>h h'.2.2.2)]
       have a:¬ ((vD 0 s.b:Nat):Int)≤255:=by omega
       simp [inB,a]
     ·unfold numI at h ⊢
      split
      ·rfl
      ·rename_i h';rw [if_neg h'] at h;omega
end Prg
end Go.Wk
namespace Go.Wk
open Go
namespace Prg
set_option maxRecDepth 10000
def wordB (w:Word_):Bool :=
 if w.kind=1 then nameB w.text else if w.kind=2 then decide (0≤numI w.text) else if w.kind=3 then (match w.text.b with | [c]=>decide (c∈sgnL) | _=>false) else if w.kind=4 then keyB w.text else false
def numW (w:Word_):Int:=if w.kind=2 then numI w.text else -1
theorem indexByte_iff (c:UInt8):∀ l:List UInt8,0≤Lib.indexByte l c↔c∈l
 | []=>by simp [Lib.indexByte]
 | b::l=>by
  have ih:=indexByte_iff c l
  have hg:=Lib.indexByte_ge l c
  unfold Lib.indexByte
  by_cases h:b=c
  ·subst h;simp
  ·have h1:(b == c)=false:=beq_eq_false_iff_ne.2 h
   rw [h1]
   simp only [Bool.false_eq_true,if_false,List.mem_cons]
   by_cases h2:Lib.indexByte l c=-1
   ·have h3 : (Lib.indexByte l c == -1) = true := by rw [h2]; rfl
    rw [h3]
    simp only [if_true]
    rw [h2] at ih
    constructor
    ·intro h';omega
    ·rintro (h' | h')
     ·exact absurd h'.symm h
     ·have:=ih.2 h';omega
   ·have h3:(Lib.indexByte l c == -1)=false:=beq_eq_false_iff_ne.2 h2
    rw [h3]
    simp only [Bool.false_eq_true,if_false]
    constructor
    ·intro h';exact .inr (ih.1 (by omega))
    ·rintro (h' | h')
     ·exact absurd h'.symm h
     ·have:=ih.2 h';omega
theorem valid_ok (w:Word_):impl_WordValid w=some (wordB w):=by
 unfold impl_WordValid wordB
 rw [name_ok,decimal_ok,has_ok,Option.bind_some,Option.bind_some,Option.bind_some]
 by_cases h1:w.kind=1
 ·simp [h1]
 by_cases h2:w.kind=2
 ·simp [h2]
 by_cases h3:w.kind=3
 ·simp only [h3, decide_true, if_true, show ((3 : Int) = 1) = False by simp, show ((3 : Int) = 2) = False by simp, decide_false, Bool.false_eq_true, if_false]
  cases hb:w.text.b with
  | nil=>simp
  | cons c l =>
   cases l with
   | nil =>
    have:strings_Contains (mkS [40,41,123,125,59,44,43,45,42,47,37,60,61,38,33,64]) w.text=some (decide (c∈sgnL)):=by
     unfold strings_Contains containsM
     rw [hb]
     show some (decide (0≤Lib.indexByte sgnL c))=_
     congr 1
     exact decide_eq_decide.2 (indexByte_iff c sgnL)
    simp [this]
   | cons d l=>simp;omega
 by_cases h4:w.kind=4
 ·simp [h4,keyB]
 ·simp [h1,h2,h3,h4]
theorem cls3 (b:UInt8):decide (clsB b=3)=decide (b∈sgnL):=by
 cases h1:letB b<;>cases h2:digB b<;>by_cases h3:b∈sgnL<;>by_cases h4:b=32∨b=10<;>simp [clsB,h1,h2,h3,h4]
 all_goals
  have key:∀ c∈sgnL,letB c=false∧digB c=false:=by decide
  have:=key b h3
  simp_all
theorem validS_ok (w:Word_):spec_WordValid w=some (wordB w):=by
 unfold spec_WordValid wordB
 rw [nameS_ok,key_ok,Option.bind_some,Option.bind_some]
 by_cases h1:w.kind=1
 ·simp [h1]
 by_cases h2:w.kind=2
 ·simp only [h2, decide_true, if_true, show ((2 : Int) = 1) = False by simp, decide_false, Bool.false_eq_true, if_false]
  obtain ⟨n,ok,e1,e2,_⟩:=l30Num_ok w.text
  rw [e1,Option.bind_some,l1In_ok,Option.bind_some,← e2]
  cases ok<;>rfl
 by_cases h3:w.kind=3
 ·simp only [h3, decide_true, if_true, show ((3 : Int) = 1) = False by simp, show ((3 : Int) = 2) = False by simp, decide_false, Bool.false_eq_true, if_false]
  cases hb:w.text.b with
  | nil=>simp
  | cons c l =>
   cases l with
   | nil =>
    have:getI [c] 0=some c:=rfl
    simp [this,class_ok,cls3]
   | cons d l=>simp;omega
 by_cases h4:w.kind=4
 ·simp [h4]
 ·simp [h1,h2,h3,h4]
theorem number_ok (w:Word_):impl_NumberOf w=some (numW w):=by
 unfold impl_NumberOf numW
 rw [decimal_ok]
 by_cases h:w.kind=2<;>simp [h]
theorem numberS_ok (w:Word_):spec_NumberOf w=some (numW w):=by
 unfold spec_NumberOf numW
 by_cases h:w.kind=2
 ·obtain ⟨n,ok,e1,e2,e3⟩:=l30Num_ok w.text
  simp only [h,ne_eq,not_true_eq_false,decide_false,Bool.false_eq_true,if_false,if_true,validS_ok,e1,Option.bind_some]
  have:wordB w=decide (0≤numI w.text):=by unfold wordB;rw [if_neg (by rw [h];decide),if_pos h]
  rw [this]
  by_cases h0:0≤numI w.text
  ·simp [h0,e3 h0]
  ·have:numI w.text=-1:=by
    unfold numI at h0 ⊢
    split
    ·rename_i h';rw [if_pos h'] at h0;omega
    ·rfl
   simp [h0,this]
 ·simp [h]
def toS (l:List UInt8):Str:=if h:l.length≤140737488355328 then ⟨l,h⟩ else mkS []
theorem toS_b {l:List UInt8} (h:l.length≤140737488355328):(toS l).b=l:=by unfold toS;rw [dif_pos h]
theorem toS_eq {s:Str}:toS s.b=s:=by unfold toS;rw [dif_pos s.h]
def kindB (c:UInt8) (s:Str):Int:=if keyB s then 4 else if letB c then 1 else if digB c then 2 else 3
theorem key_let {s:Str} {c:UInt8} {l:List UInt8} (hs:s.b=c::l) (h:keyB s=true):letB c=true:=by
 have hm:s∈glob_impl_keys:=of_decide_eq_true h
 have key:∀ k∈glob_impl_keys,∃ c l,k.b=c::l∧letB c=true:=by
  intro k hk
  unfold glob_impl_keys at hk
  simp only [List.mem_cons,List.not_mem_nil,or_false] at hk
  rcases hk with rfl | rfl | rfl | rfl | rfl | rfl | rfl | rfl | rfl<;>exact ⟨_,_,rfl,by decide⟩
 obtain ⟨c',l',h1,h2⟩:=key s hm
 rw [hs] at h1
 cases h1;exact h2
theorem let_dig {c:UInt8} (h:letB c=true):digB c=false:=by
 cases hd:digB c with
 | false=>rfl
 | true=>have:=let_iff.1 h;have:=dig_iff.1 hd;omega
theorem word_ok {s:Str} {c:UInt8} {l:List UInt8} (hs:s.b=c::l):impl_wordOf s=some ⟨kindB c s,s⟩:=by
 unfold impl_wordOf kindB
 have hg:getI s.b 0=some c:=by rw [hs];rfl
 rw [hg,Option.bind_some,digit_ok,has_ok,Option.bind_some,Option.bind_some,Option.bind_some,letter_ok,Option.bind_some]
 show (if digB c then some (⟨2,s⟩:Word_) else if keyB s then some ⟨4,s⟩ else if letB c then some ⟨1,s⟩ else some ⟨3,s⟩)=_
 cases hk:keyB s with
 | true=>rw [let_dig (key_let hs hk)];rfl
 | false=>cases hl:letB c<;>cases hd:digB c<;>first | rfl | (rw [let_dig hl] at hd;cases hd)
theorem wordS_ok {s:Str} {c:UInt8} {l:List UInt8} (hs:s.b=c::l) (hc:clsB c≠0) (hc4:clsB c≠4):spec_l1Word s=some ⟨kindB c s,s⟩:=by
 unfold spec_l1Word kindB
 have hg:getI s.b 0=some c:=by rw [hs];rfl
 rw [hg,Option.bind_some,class_ok,key_ok,Option.bind_some,Option.bind_some]
 cases hk:keyB s with
 | true=>rfl
 | false =>
  show some (⟨clsB c,s⟩:Word_)=_
  have:clsB c=if letB c then 1 else if digB c then 2 else 3:=by
   revert hc hc4
   unfold clsB
   cases letB c<;>cases digB c<;>(try by_cases h3:c∈sgnL)<;>(try by_cases h4:c=32∨c=10)<;>simp [*]
  rw [this];rfl
end Prg
end Go.Wk
namespace Go.Wk
open Go
namespace Prg
set_option maxRecDepth 10000
def runP (c:UInt8) (x:UInt8):Bool:=if letB c then letB x else if digB c then digB x else false
def mkWd (c:UInt8) (l:List UInt8):Word_:=⟨kindB c (toS (c::l)),toS (c::l)⟩
def blkB (c:UInt8):Bool:=decide (c=32∨c=10)
theorem drop_le (p:UInt8→Bool):∀ l:List UInt8,(l.dropWhile p).length≤l.length
 | []=>Nat.le_refl _
 | a::l=>by
  rw [List.dropWhile_cons]
  split
  ·exact Nat.le_trans (drop_le p l) (Nat.le_succ _)
  ·exact Nat.le_refl _
def tok (l:List UInt8):Option (List Word_):=match l with
 | []=>some []
 | c :: r => if blkB c then tok r else
  if wordB (mkWd c (r.takeWhile (runP c))) then (tok (r.dropWhile (runP c))).map (mkWd c (r.takeWhile (runP c))::·) else none
termination_by l.length
decreasing_by
 ·simp
 ·exact Nat.lt_succ_of_le (drop_le _ _)
theorem tok_nil:tok []=some []:=by rw [tok]
theorem tok_cons (c : UInt8) (r : List UInt8) : tok (c :: r) = if blkB c then tok r else
  if wordB (mkWd c (r.takeWhile (runP c))) then (tok (r.dropWhile (runP c))).map (mkWd c (r.takeWhile (runP c))::·) else none:=by rw [tok]
def cutR (s:Str):Option (List Word_):=if s.b.length≤3000 then (tok s.b).filter (λws=>decide (ws.length≤600)) else none
def cutV (s:Str):List Word_ × Bool:=match cutR s with
 | some ws=>(ws,true)
 | none=>([],false)
theorem run_loop {s:Str} (hs:s.b.length≤3000) (p:UInt8→Bool) {body:Int→Option (Int ⊕ Int)}
  (hb:∀ k:Int,body k=Option.bind (if decide (k<(s.b.length:Int)) then Option.bind (getI s.b k) λx=>some (p x) else some false:Option Bool) λt=>if t then some (.inl (w64 (k+1))) else some (.inr k)) :
  ∀ (l:List UInt8) (k:Nat),s.b.drop k=l→k≤s.b.length→loopM body (k:Int)=some ((k+(l.takeWhile p).length:Nat):Int):=by
 intro l
 induction l with
 | nil =>
  intro k he hk
  have:s.b.length≤k:=List.drop_eq_nil_iff.1 he
  refine loopM_inr ?_
  rw [hb,if_neg (by simp;omega)]
  simp
 | cons c l ih =>
  intro k he hk
  have hlt:k<s.b.length:=by
   rcases Nat.lt_or_ge k s.b.length with h | h
   ·exact h
   ·rw [List.drop_eq_nil_of_le h] at he;cases he
  have hg:getI s.b (k:Int)=some c:=by
   rw [getI_nat]
   have:=congrArg (λl=>l[0]?) he
   simpa using this
  have hd:s.b.drop (k+1)=l:=by rw [← List.drop_drop,he];rfl
  rw [List.takeWhile_cons]
  cases hp:p c with
  | true =>
   have:=ih (k+1) hd (by omega)
   rw [loopM_inl (s':=((k+1:Nat):Int))]
   ·rw [this];simp;omega
   ·rw [hb, if_pos (by simp; omega), hg, Option.bind_some, hp, Option.bind_some, if_pos rfl, w64_id (by omega) (by omega)]
    rfl
  | false =>
   refine loopM_inr ?_
   rw [hb,if_pos (by simp;omega),hg,Option.bind_some,hp,Option.bind_some]
   simp
theorem take_drop (p:UInt8→Bool) (l:List UInt8):l.drop (l.takeWhile p).length=l.dropWhile p:=by
 conv=>lhs;arg 2;rw [← List.takeWhile_append_dropWhile (p:=p) (l:=l)]
 rw [List.drop_left]
theorem sub_run {s:Str} {k:Nat} {c:UInt8} {r:List UInt8} (p:UInt8→Bool) (he:s.b.drop k=c::r) (hk:k+1+(r.takeWhile p).length≤s.b.length):subS s (k:Int) ((k+1+(r.takeWhile p).length:Nat):Int)=some (toS (c::r.takeWhile p)):=by
 refine subS_some.2 ⟨⟨by omega,by omega,by omega⟩,Str.ext' ?_⟩
 have hl:(c::r.takeWhile p).length≤140737488355328:=by
  have:=s.h
  simp;omega
 rw [toS_b hl]
 show (s.b.take _).drop _=_
 rw [List.drop_take,show ((k:Int)).toNat=k by omega,he,show (((k+1+(r.takeWhile p).length:Nat):Int)).toNat - k=(r.takeWhile p).length+1 by omega,List.take_succ_cons]
 congr 1
 conv=>lhs;arg 2;rw [← List.takeWhile_append_dropWhile (p:=p) (l:=r)]
 rw [List.take_left]
theorem run_cls {c x:UInt8} (hc:blkB c=false) (h0:clsB c≠0):(decide (clsB x=clsB c)&&decide (clsB c<3))=runP c x:=by
 unfold runP
 cases h1:letB c with
 | true =>
  have:clsB c=1:=by unfold clsB;rw [h1];rfl
  rw [this,cls1];simp
 | false =>
  cases h2:digB c with
  | true =>
   have e:clsB c=2:=by unfold clsB;rw [h1,h2];rfl
   have e2:decide (clsB x=2)=digB x:=by
    cases h3:letB x<;>cases h4:digB x<;>by_cases h5:x∈sgnL<;>by_cases h6:x=32∨x=10<;>simp [clsB,h3,h4,h5,h6]
    all_goals (have:=let_dig h3;rw [h4] at this;cases this)
   rw [e,e2];simp
  | false =>
   have:¬ clsB c<3:=by
    revert h0
    unfold clsB
    rw [h1,h2]
    by_cases h5:c∈sgnL<;>by_cases h6:c=32∨c=10<;>simp [h5,h6]
   simp [this]
theorem blk_cls (c:UInt8):blkB c=decide (clsB c=4):=by
 unfold blkB
 by_cases h:c=32∨c=10
 ·rcases h with rfl | rfl<;>decide
 ·rw [decide_eq_false h]
  symm
  rw [decide_eq_false_iff_not]
  unfold clsB
  cases letB c<;>cases digB c<;>by_cases h5:c∈sgnL<;>simp [h,h5]
def endI (acc:List Word_) (o:Option (List Word_)):(List Word_ × Bool) ⊕ List Word_:=match o with
 | some ws=>if acc.length+ws.length≤600 then .inr (acc++ws) else .inl ([],false)
 | none=>.inl ([],false)
theorem cut_impl {s:Str} (hs:s.b.length≤3000):∀ (n:Nat) (l:List UInt8) (k:Nat) (acc:List Word_),l.length≤n→s.b.drop k=l→k≤s.b.length→acc.length≤600→loopM (λ(xs2_1:(List Word_) × Int)=>(if decide (xs2_1.2<(((s).b.length:Int))) then Option.bind (Option.bind (Option.bind (getI (s).b xs2_1.2) λx4_1=>if decide (x4_1=(32:UInt8)) then some true else Option.bind (getI (s).b xs2_1.2) λx4_2=>some (decide (x4_2=(10:UInt8))):Option (Bool)) λs3_1=>if s3_1 then some (.inl (xs2_1.1,w64 (xs2_1.2+1))) else Option.bind (Option.bind (getI (s).b xs2_1.2) λx4_3=>Option.bind (impl_isLetter x4_3) λr4_1=>Option.bind (if r4_1 then some (λy0=>impl_isLetter y0) else Option.bind (getI (s).b xs2_1.2) λx5_1=>Option.bind (impl_isDigit x5_1) λr5_1=>Option.bind (if r5_1 then some (λy0=>impl_isDigit y0) else some (λy0=>impl_CutWords_1 y0):Option ((UInt8→Option Bool))) λs5_1=>some s5_1:Option ((UInt8→Option Bool))) λs4_1=>some s4_1:Option ((UInt8→Option Bool))) λs3_2=>Option.bind (Option.bind (loopM (S:=Int) (X:=Int) (λxs5_1=>Option.bind (if decide (xs5_1<(((s).b.length:Int))) then Option.bind (getI (s).b xs5_1) λx6_1=>Option.bind (s3_2 x6_1) λr6_1=>some r6_1 else some false:Option (Bool)) λs5_2=>if s5_2 then some (.inl (w64 (xs5_1+1))) else some (.inr xs5_1)) (w64 (xs2_1.2+1))) (λe0=>some e0):Option (Int)) λs3_3=>Option.bind (subS s xs2_1.2 s3_3) λx3_1=>Option.bind (impl_wordOf x3_1) λr3_1=>Option.bind (Option.bind (impl_WordValid r3_1) λr4_3=>if !(r4_3) then some true else some (decide (((xs2_1.1.length:Int))=600)):Option (Bool)) λs3_4=>if s3_4 then some (.inr ([],false)) else Option.bind (appM xs2_1.1 ([r3_1]:List Word_)) λys3_1=>some (.inl (ys3_1,s3_3)):Option (((List Word_) × Int) ⊕ ((List Word_) × Bool))) (Sum.elim (λs2_1=>some (.inl (s2_1.1,s2_1.2))) (λe0=>some (.inr (.inl e0)))) else some (.inr (.inr xs2_1.1)):Option (((List Word_) × Int) ⊕ (((List Word_) × Bool) ⊕ (List Word_))))) (acc,(k:Int))=some (endI acc (tok l)):=by
 intro n
 induction n with
 | zero =>
  intro l k acc hl he hk ha
  have:l=[]:=List.eq_nil_of_length_eq_zero (by omega)
  subst this
  have h1:s.b.length≤k:=List.drop_eq_nil_iff.1 he
  refine loopM_inr ?_
  dsimp only
  rw [if_neg (by simp;omega),tok_nil]
  simp [endI,ha]
 | succ n ih =>
  intro l k acc hl he hk ha
  cases l with
  | nil =>
   have h1:s.b.length≤k:=List.drop_eq_nil_iff.1 he
   refine loopM_inr ?_
   dsimp only
   rw [if_neg (by simp;omega),tok_nil]
   simp [endI,ha]
  | cons c r =>
   have hlt:k<s.b.length:=by
    rcases Nat.lt_or_ge k s.b.length with h | h
    ·exact h
    ·rw [List.drop_eq_nil_of_le h] at he;cases he
   have hg:getI s.b (k:Int)=some c:=by
    rw [getI_nat]
    have:=congrArg (λl=>l[0]?) he
    simpa using this
   have hd:s.b.drop (k+1)=r:=by rw [← List.drop_drop,he];rfl
   have hrl:r.length+(k+1)=s.b.length:=by
    have:=congrArg List.length hd
    simp at this;omega
   have hblk:(if decide (c=(32:UInt8)) then some true else Option.bind (getI s.b (k:Int)) λx4_2=>some (decide (x4_2=(10:UInt8))):Option Bool)=some (blkB c):=by
    rw [hg,Option.bind_some]
    unfold blkB
    by_cases h:c=32<;>simp [h]
   rw [tok_cons]
   cases hb:blkB c with
   | true =>
    simp only [if_true]
    rw [loopM_inl (s':=(acc,((k+1:Nat):Int)))]
    ·exact ih r (k+1) acc (by simp at hl;omega) hd (by omega) ha
    ·dsimp only
     rw [if_pos (by simp;omega),hg,Option.bind_some]
     rw [hg] at hblk
     rw [hblk,hb,Option.bind_some,if_pos rfl,w64_id (by omega) (by omega)]
     rfl
   | false =>
    simp only [Bool.false_eq_true,if_false]
    have hsel:∃ f:UInt8→Option Bool,(Option.bind (impl_isLetter c) λr4_1=>Option.bind (if r4_1 then some (λy0=>impl_isLetter y0) else Option.bind (getI s.b (k:Int)) λx5_1=>Option.bind (impl_isDigit x5_1) λr5_1=>Option.bind (if r5_1 then some (λy0=>impl_isDigit y0) else some (λy0=>impl_CutWords_1 y0):Option ((UInt8→Option Bool))) λs5_1=>some s5_1:Option ((UInt8→Option Bool))) λs4_1=>some s4_1:Option (UInt8→Option Bool))=some f∧∀ x,f x=some (runP c x):=by
     rw [letter_ok,Option.bind_some,hg,Option.bind_some,digit_ok,Option.bind_some]
     unfold runP
     cases letB c with
     | true=>exact ⟨_,rfl,λx=>letter_ok x⟩
     | false =>
      cases digB c with
      | true=>exact ⟨_,rfl,λx=>digit_ok x⟩
      | false=>exact ⟨_,rfl,λx=>rfl⟩
    obtain ⟨f,hf1,hf2⟩:=hsel
    have hrun:=run_loop hs (runP c) (body:=(λ(xs5_1:Int)=>(Option.bind (if decide (xs5_1<(((s).b.length:Int))) then Option.bind (getI (s).b xs5_1) λx6_1=>Option.bind (f x6_1) λr6_1=>some r6_1 else some false:Option (Bool)) λs5_2=>if s5_2 then some (.inl (w64 (xs5_1+1))) else some (.inr xs5_1):Option ((Int) ⊕ (Int))))) (λk=>by rw [show (λx6_1=>Option.bind (f x6_1) λr6_1=>some r6_1)=λx=>some (runP c x) from funext λx=>by rw [hf2,Option.bind_some]]) r (k+1) hd (by omega)
    have htl:(r.takeWhile (runP c)).length≤r.length:=by
     exact (List.takeWhile_sublist _).length_le
    have hsub:=sub_run (s:=s) (k:=k) (runP c) he (by omega)
    have hwl:(c::r.takeWhile (runP c)).length≤140737488355328:=by have:=s.h;simp;omega
    have hw:=word_ok (s:=toS (c::r.takeWhile (runP c))) (toS_b hwl)
    have hk1:w64 ((k:Int)+1)=((k+1:Nat):Int):=by rw [w64_id (by omega) (by omega)];rfl
    have hnext:s.b.drop (k+1+(r.takeWhile (runP c)).length)=r.dropWhile (runP c):=by rw [← List.drop_drop,hd,take_drop]
    have hw2:(⟨kindB c (toS (c::r.takeWhile (runP c))),toS (c::r.takeWhile (runP c))⟩:Word_)=mkWd c (r.takeWhile (runP c)):=rfl
    rw [hw2] at hw
    rw [hg] at hblk
    simp only [hg,Option.bind_some] at hf1
    have hdl:=drop_le (runP c) r
    cases hv:wordB (mkWd c (r.takeWhile (runP c))) with
    | false =>
     refine loopM_inr ?_
     dsimp only
     rw [if_pos (by simp;omega),hg,Option.bind_some,hblk,hb,Option.bind_some]
     simp only [Bool.false_eq_true,if_false,Option.bind_some]
     rw [hf1,Option.bind_some,hk1,hrun,Option.bind_some,Option.bind_some,hsub,Option.bind_some,hw,Option.bind_some,valid_ok,hv]
     rfl
    | true =>
     by_cases h6:acc.length=600
     ·rw [loopM_inr (x:=.inl ([],false))]
      ·simp only [if_true]
       cases tok (r.dropWhile (runP c)) with
       | none=>rfl
       | some ws=>simp [endI,h6]
      ·dsimp only
       rw [if_pos (by simp;omega),hg,Option.bind_some,hblk,hb,Option.bind_some]
       simp only [Bool.false_eq_true,if_false,Option.bind_some]
       rw [hf1,Option.bind_some,hk1,hrun,Option.bind_some,Option.bind_some,hsub,Option.bind_some,hw,Option.bind_some,valid_ok,hv,h6]
       rfl
     ·rw [loopM_inl (s':=(acc++[mkWd c (r.takeWhile (runP c))],((k+1+(r.takeWhile (runP c)).length:Nat):Int)))]
      ·rw [ih (r.dropWhile (runP c)) (k + 1 + (r.takeWhile (runP c)).length) (acc ++ [mkWd c (r.takeWhile (runP c))]) (by simp at hl; omega) hnext (by omega) (by simp; omega)]
       simp only [if_true]
       cases tok (r.dropWhile (runP c)) with
       | none=>rfl
       | some ws =>
        unfold endI
        simp only [Option.map_some,List.length_append,List.length_cons,List.length_nil,List.append_assoc,List.singleton_append]
        rw [show acc.length+(0+1)+ws.length=acc.length+(ws.length+1) by omega]
      ·have h6' : decide ((acc.length : Int) = 600) = false := by rw [decide_eq_false_iff_not]; omega
       dsimp only
       rw [if_pos (by simp;omega),hg,Option.bind_some,hblk,hb,Option.bind_some]
       simp only [Bool.false_eq_true,if_false,Option.bind_some]
       rw [hf1,Option.bind_some,hk1,hrun,Option.bind_some,Option.bind_some,hsub,Option.bind_some,hw,Option.bind_some,valid_ok,hv,Option.bind_some]
       simp only [Bool.not_true,Bool.false_eq_true,if_false,h6',Option.bind_some]
       rw [appM_ok (by simp;omega),Option.bind_some]
       rfl
theorem cutWords_ok (s:Str):impl_CutWords s=some (cutV s):=by
 unfold impl_CutWords cutV cutR
 by_cases hs:s.b.length≤3000
 ·have h1 : ¬ (3000 : Int) < (s.b.length : Int) := by omega
  simp only [h1,decide_false,Bool.false_eq_true,if_false,hs,if_true]
  have:=cut_impl hs s.b.length s.b 0 [] (Nat.le_refl _) rfl (Nat.zero_le _) (by simp)
  rw [show ((0:Nat):Int)=0 from rfl] at this
  rw [bindc (bindc this)]
  cases tok s.b with
  | none=>rfl
  | some ws =>
   unfold endI
   simp only [List.length_nil,Nat.zero_add,List.nil_append,Option.filter]
   by_cases h:ws.length≤600<;>simp [h]
 ·have h1 : (3000 : Int) < (s.b.length : Int) := by omega
  simp [h1,hs]
end Prg
end Go.Wk
namespace Go.Wk
open Go
namespace Prg
set_option maxRecDepth 10000
def endS (acc:List Word_) (o:Option (List Word_)):(List Word_ × Bool) ⊕ List Word_:=match o with
 | some ws=>.inr (acc++ws)
 | none=>.inl ([],false)
theorem cut_spec {s:Str} (hs:s.b.length≤3000):∀ (n:Nat) (l:List UInt8) (k:Nat) (acc:List Word_),l.length≤n→s.b.drop k=l→k≤s.b.length→acc.length≤k→loopM (λ(xs2_1:(List Word_) × Int)=>(Option.bind (if decide (xs2_1.2<(((s).b.length:Int))) then some (decide ((((s).b.length:Int))≤3000)) else some false:Option (Bool)) λs2_1=>if s2_1 then Option.bind (getI (s).b xs2_1.2) λx2_1=>Option.bind (spec_l1Class x2_1) λr2_1=>Option.bind (Option.bind (loopM (S:=Int) (X:=Int) (λxs4_1=>Option.bind (if decide (xs4_1<(((s).b.length:Int))) then Option.bind (getI (s).b xs4_1) λx5_1=>Option.bind (spec_l1Class x5_1) λr5_1=>if decide (r5_1=r2_1) then some (decide (r2_1<3)) else some false else some false:Option (Bool)) λs4_1=>if s4_1 then some (.inl (w64 (xs4_1+1))) else some (.inr xs4_1)) (w64 (xs2_1.2+1))) (λe0=>some e0):Option (Int)) λs2_2=>Option.bind (if decide (r2_1≠4) then Option.bind (if decide (r2_1=0) then some true else Option.bind (subS s xs2_1.2 s2_2) λx4_1=>Option.bind (spec_l1Word x4_1) λr4_1=>Option.bind (spec_WordValid r4_1) λr4_2=>some (!(r4_2)):Option (Bool)) λs3_1=>if s3_1 then some (.inr (([]:List Word_),false)) else Option.bind (subS s xs2_1.2 s2_2) λx3_1=>Option.bind (spec_l1Word x3_1) λr3_2=>Option.bind (appM xs2_1.1 ([r3_2]:List Word_)) λys3_1=>some (.inl ys3_1) else some (.inl xs2_1.1):Option (((List Word_)) ⊕ ((List Word_) × Bool))) (Sum.elim (λs2_3=>some (.inl (s2_3,s2_2))) (λe0=>some (.inr (.inl e0)))) else some (.inr (.inr xs2_1.1)):Option (((List Word_) × Int) ⊕ (((List Word_) × Bool) ⊕ (List Word_))))) (acc,(k:Int))=some (endS acc (tok l)):=by
 intro n
 have hend:∀ (k:Nat) (acc:List Word_),s.b.drop k=[]→loopM (λ(xs2_1:(List Word_) × Int)=>(Option.bind (if decide (xs2_1.2<(((s).b.length:Int))) then some (decide ((((s).b.length:Int))≤3000)) else some false:Option (Bool)) λs2_1=>if s2_1 then Option.bind (getI (s).b xs2_1.2) λx2_1=>Option.bind (spec_l1Class x2_1) λr2_1=>Option.bind (Option.bind (loopM (S:=Int) (X:=Int) (λxs4_1=>Option.bind (if decide (xs4_1<(((s).b.length:Int))) then Option.bind (getI (s).b xs4_1) λx5_1=>Option.bind (spec_l1Class x5_1) λr5_1=>if decide (r5_1=r2_1) then some (decide (r2_1<3)) else some false else some false:Option (Bool)) λs4_1=>if s4_1 then some (.inl (w64 (xs4_1+1))) else some (.inr xs4_1)) (w64 (xs2_1.2+1))) (λe0=>some e0):Option (Int)) λs2_2=>Option.bind (if decide (r2_1≠4) then Option.bind (if decide (r2_1=0) then some true else Option.bind (subS s xs2_1.2 s2_2) λx4_1=>Option.bind (spec_l1Word x4_1) λr4_1=>Option.bind (spec_WordValid r4_1) λr4_2=>some (!(r4_2)):Option (Bool)) λs3_1=>if s3_1 then some (.inr (([]:List Word_),false)) else Option.bind (subS s xs2_1.2 s2_2) λx3_1=>Option.bind (spec_l1Word x3_1) λr3_2=>Option.bind (appM xs2_1.1 ([r3_2]:List Word_)) λys3_1=>some (.inl ys3_1) else some (.inl xs2_1.1):Option (((List Word_)) ⊕ ((List Word_) × Bool))) (Sum.elim (λs2_3=>some (.inl (s2_3,s2_2))) (λe0=>some (.inr (.inl e0)))) else some (.inr (.inr xs2_1.1)):Option (((List Word_) × Int) ⊕ (((List Word_) × Bool) ⊕ (List Word_))))) (acc,(k:Int))=some (endS acc (tok [])):=λk acc he=>by
  have h1:s.b.length≤k:=List.drop_eq_nil_iff.1 he
  refine loopM_inr ?_
  dsimp only
  rw [if_neg (by simp;omega),tok_nil]
  simp [endS]
 induction n with
 | zero =>
  intro l k acc hl he hk ha
  have:l=[]:=List.eq_nil_of_length_eq_zero (by omega)
  subst this
  exact hend k acc he
 | succ n ih =>
  intro l k acc hl he hk ha
  cases l with
  | nil=>exact hend k acc he
  | cons c r =>
   have hlt:k<s.b.length:=by
    rcases Nat.lt_or_ge k s.b.length with h | h
    ·exact h
    ·rw [List.drop_eq_nil_of_le h] at he;cases he
   have hg:getI s.b (k:Int)=some c:=by
    rw [getI_nat]
    have:=congrArg (λl=>l[0]?) he
    simpa using this
   have hd:s.b.drop (k+1)=r:=by rw [← List.drop_drop,he];rfl
   have hrl:r.length+(k+1)=s.b.length:=by
    have:=congrArg List.length hd
    simp at this;omega
   have hcond:(if decide ((k:Int)<(s.b.length:Int)) then some (decide ((s.b.length:Int)≤3000)) else some false:Option Bool)=some true:=by
    rw [if_pos (by simp;omega)];congr 1;rw [decide_eq_true_iff];omega
   have hk1:w64 ((k:Int)+1)=((k+1:Nat):Int):=by rw [w64_id (by omega) (by omega)];rfl
   obtain ⟨q,hq⟩:∃ q,q=clsB c:=⟨_,rfl⟩
   have hrun:=run_loop hs (λx=>decide (clsB x=q)&&decide (q<3)) (body:=(λ(xs4_1:Int)=>(Option.bind (if decide (xs4_1<(((s).b.length:Int))) then Option.bind (getI (s).b xs4_1) λx5_1=>Option.bind (spec_l1Class x5_1) λr5_1=>if decide (r5_1=q) then some (decide (q<3)) else some false else some false:Option (Bool)) λs4_1=>if s4_1 then some (.inl (w64 (xs4_1+1))) else some (.inr xs4_1):Option ((Int) ⊕ (Int))))) (λk=>by
    rw [show (λx5_1=>Option.bind (spec_l1Class x5_1) λr5_1=>if decide (r5_1=q) then some (decide (q<3)) else some false)=λx=>some (decide (clsB x=q)&&decide (q<3)) from funext λx=>by
     rw [class_ok,Option.bind_some];cases decide (clsB x=q)<;>rfl]) r (k+1) hd (by omega)
   subst hq
   rw [tok_cons]
   cases hb:blkB c with
   | true =>
    have h4:clsB c=4:=of_decide_eq_true (by rw [← blk_cls];exact hb)
    have hp:(λx=>decide (clsB x=clsB c)&&decide (clsB c<3))=λ_=>false:=funext λx=>by rw [h4];simp
    have ht:r.takeWhile (λ_:UInt8=>false)=[]:=by cases r<;>rfl
    rw [hp,ht] at hrun
    simp only [if_true]
    rw [loopM_inl (s':=(acc,((k+1:Nat):Int)))]
    ·exact ih r (k+1) acc (by simp at hl;omega) hd (by omega) (by omega)
    ·dsimp only
     rw [hcond,Option.bind_some,if_pos rfl,hg,Option.bind_some,class_ok,Option.bind_some,hk1,hrun,Option.bind_some,Option.bind_some,h4]
     rfl
   | false =>
    have h4:clsB c≠4:=λh=>by rw [blk_cls,h] at hb;simp at hb
    simp only [Bool.false_eq_true,if_false]
    by_cases h0:clsB c=0
    ·have hv:wordB (mkWd c (r.takeWhile (runP c)))=false:=by
      have hl:letB c=false:=by cases h:letB c with | false=>rfl | true=>unfold clsB at h0;rw [h] at h0;simp at h0
      have hdg:digB c=false:=by cases h:digB c with | false=>rfl | true=>unfold clsB at h0;rw [hl,h] at h0;simp at h0
      have hsg:c ∉ sgnL:=λh=>by unfold clsB at h0;rw [hl,hdg] at h0;simp [h] at h0
      have ht:r.takeWhile (runP c)=[]:=by
       have:runP c=λ_=>false:=funext λx=>by unfold runP;rw [hl,hdg];rfl
       rw [this];cases r<;>rfl
      rw [ht]
      have hk:keyB (toS [c])=false:=by
       cases h:keyB (toS [c]) with
       | false=>rfl
       | true=>have:=key_let (toS_b (l:=[c]) (by simp)) h;rw [hl] at this;cases this
      have:mkWd c []=⟨3,toS [c]⟩:=by unfold mkWd kindB;rw [hk,hl,hdg];rfl
      rw [this]
      unfold wordB
      simp [toS_b (l:=[c]) (by simp),hsg]
     rw [hv]
     refine loopM_inr ?_
     dsimp only
     rw [hcond,Option.bind_some,if_pos rfl,hg,Option.bind_some,class_ok,Option.bind_some,hk1,hrun,Option.bind_some,Option.bind_some,h0]
     rfl
    ·have hp:(λx=>decide (clsB x=clsB c)&&decide (clsB c<3))=runP c:=funext λx=>run_cls hb h0
     rw [hp] at hrun
     have htl:(r.takeWhile (runP c)).length≤r.length:=(List.takeWhile_sublist _).length_le
     have hsub:=sub_run (s:=s) (k:=k) (runP c) he (by omega)
     have hwl:(c::r.takeWhile (runP c)).length≤140737488355328:=by have:=s.h;simp;omega
     have hw:=wordS_ok (s:=toS (c::r.takeWhile (runP c))) (toS_b hwl) h0 h4
     have hw2:(⟨kindB c (toS (c::r.takeWhile (runP c))),toS (c::r.takeWhile (runP c))⟩:Word_)=mkWd c (r.takeWhile (runP c)):=rfl
     rw [hw2] at hw
     have hdl:=drop_le (runP c) r
     have hnext:s.b.drop (k+1+(r.takeWhile (runP c)).length)=r.dropWhile (runP c):=by rw [← List.drop_drop,hd,take_drop]
     have h4':decide (clsB c≠4)=true:=decide_eq_true h4
     have h0':decide (clsB c=0)=false:=decide_eq_false h0
     cases hv:wordB (mkWd c (r.takeWhile (runP c))) with
     | false =>
      refine loopM_inr ?_
      dsimp only
      rw [hcond,Option.bind_some,if_pos rfl,hg,Option.bind_some,class_ok,Option.bind_some,hk1,hrun,Option.bind_some,Option.bind_some,h4',h0']
      simp only [if_true,Bool.false_eq_true,if_false]
      rw [hsub,Option.bind_some,hw,Option.bind_some,validS_ok,hv]
      rfl
     | true =>
      simp only [if_true]
      rw [loopM_inl (s':=(acc++[mkWd c (r.takeWhile (runP c))],((k+1+(r.takeWhile (runP c)).length:Nat):Int)))]
      ·rw [ih (r.dropWhile (runP c)) (k + 1 + (r.takeWhile (runP c)).length) (acc ++ [mkWd c (r.takeWhile (runP c))]) (by simp at hl; omega) hnext (by omega) (by simp; omega)]
       cases tok (r.dropWhile (runP c)) with
       | none=>rfl
       | some ws=>simp [endS]
      ·dsimp only
       rw [hcond,Option.bind_some,if_pos rfl,hg,Option.bind_some,class_ok,Option.bind_some,hk1,hrun,Option.bind_some,Option.bind_some,h4',h0']
       simp only [if_true,Bool.false_eq_true,if_false]
       rw [hsub,Option.bind_some,hw,Option.bind_some,validS_ok,hv,Option.bind_some,Option.bind_some]
       simp only [Bool.not_true,Bool.false_eq_true,if_false]
       rw [Option.bind_some,hw,Option.bind_some,appM_ok (by simp;omega),Option.bind_some]
       rfl
theorem cutWordsS_ok (s:Str):spec_CutWords s=some (cutV s):=by
 unfold spec_CutWords cutV cutR
 by_cases hs:s.b.length≤3000
 ·have := cut_spec hs s.b.length s.b 0 [] (Nat.le_refl _) rfl (Nat.zero_le _) (by simp)
  rw [show ((0:Nat):Int)=0 from rfl] at this
  rw [bindc (bindc this),if_pos hs]
  have h1:decide ((3000:Int)<(s.b.length:Int))=false:=by rw [decide_eq_false_iff_not];omega
  cases tok s.b with
  | none=>rfl
  | some ws =>
   show Option.bind (if decide ((3000:Int)<(s.b.length:Int)) then some true else some (decide (600<(([]++ws:List Word_).length:Int)))) _=_
   rw [h1]
   simp only [List.nil_append,Option.filter,Bool.false_eq_true,if_false,Option.bind_some]
   by_cases h:ws.length≤600
   ·have : ¬ (600 : Int) < (ws.length : Int) := by omega
    simp [h,this]
   ·have : (600 : Int) < (ws.length : Int) := by omega
    simp [h,this]
 ·rw [if_neg hs]
  have h1:decide ((3000:Int)<(s.b.length:Int))=true:=by rw [decide_eq_true_iff];omega
  have h2:decide ((s.b.length:Int)≤3000)=false:=by rw [decide_eq_false_iff_not];omega
  rw [bindc (bindc (loopM_inr (x:=.inr []) (by
   dsimp only
   rw [h2]
   cases decide ((0:Int)<(s.b.length:Int))<;>rfl)))]
  show Option.bind (if decide ((3000:Int)<(s.b.length:Int)) then some true else some (decide (600<(([]:List Word_).length:Int)))) _=_
  rw [h1]
  rfl
end Prg
end Go.Wk
namespace Go.Wk
open Go
namespace Prg
set_option maxRecDepth 10000
theorem exprInd {P:Expr_→Prop} (h:∀ e:Expr_,(∀ k∈e.kids,P k)→P e):∀ e,P e:=by
 have:∀ (n:Nat) (e:Expr_),SizeOf.sizeOf e≤n→P e:=by
  intro n
  induction n with
  | zero=>intro e he;cases e;simp at he
  | succ n ih =>
   intro e he
   refine h e λk hk=>ih k ?_
   have:=List.sizeOf_lt_of_mem hk
   cases e
   simp at he this ⊢
   omega
 exact λe=>this _ e (Nat.le_refl _)
mutual
def partsE:Expr_→Nat
 | ⟨_,_,_,ks⟩=>1+partsL ks
def partsL:List Expr_→Nat
 | []=>0
 | k::ks=>partsE k+partsL ks
end
theorem partsE_eq (e:Expr_):partsE e=1+partsL e.kids:=by cases e;rw [partsE]
theorem partsL_cons (k:Expr_) (ks:List Expr_):partsL (k::ks)=partsE k+partsL ks:=by rw [partsL]
theorem partsL_nil:partsL []=0:=by rw [partsL]
theorem partsL_app:∀ (l r:List Expr_),partsL (l++r)=partsL l+partsL r
 | [],r=>by rw [partsL_nil,List.nil_append,Nat.zero_add]
 | k::l,r=>by rw [List.cons_append,partsL_cons,partsL_cons,partsL_app l r];omega
theorem parts_mem {k:Expr_}:∀ {l:List Expr_},k∈l→partsE k≤partsL l
 | a::l,h=>by
  rw [partsL_cons]
  rcases List.mem_cons.1 h with rfl | h
  ·omega
  ·have:=parts_mem h;omega
def lvI (op:Int):Int:=if op=10 then 1 else if op=8∨op=9 then 2 else if op=3∨op=4 then 3 else if op=5∨op=6∨op=7 then 4 else if op=11∨op=12 then 5 else 6
def kidsI (op:Int):Int × Int:=if op=1∨op=2 then (0,0) else if op=11∨op=12 then (1,1) else if op=13 then (0,3) else (2,2)
def headB (e:Expr_):Bool:=inB e.op 1 13&&(inB (e.kids.length:Int) (kidsI e.op).1 (kidsI e.op).2&&((if e.op=2∨e.op=13 then nameB e.name else decide (e.name=mkS []))&&(inB e.n_ 0 255&&decide (e.op=1∨e.n_=0))))
def formE:Nat→Expr_→Bool
 | 0,_=>false
 | d+1,e=>headB e&&e.kids.all (formE d)
def validB (e:Expr_):Bool:=formE 6 e&&decide (partsE e≤30)
theorem op_cases {op:Int} (h:inB op 1 13=true):op=1∨op=2∨op=3∨op=4∨op=5∨op=6∨op=7∨op=8∨op=9∨op=10∨op=11∨op=12∨op=13:=by
 rw [inB_iff] at h;omega
theorem level_ok (op:Int):spec_l2Level op=some (lvI op):=by
 unfold spec_l2Level lvI
 by_cases h1:op=10
 ·simp [h1]
 by_cases h2:op=8
 ·simp [h2]
 by_cases h3:op=9
 ·simp [h3]
 by_cases h4:op=3
 ·simp [h4]
 by_cases h5:op=4
 ·simp [h5]
 by_cases h6:op=5
 ·simp [h6]
 by_cases h7:op=6
 ·simp [h7]
 by_cases h8:op=7
 ·simp [h8]
 by_cases h9:op=11
 ·simp [h9]
 by_cases h10:op=12
 ·simp [h10]
 simp [h1,h2,h3,h4,h5,h6,h7,h8,h9,h10]
theorem kids_ok (op:Int):spec_l2Kids op=some (kidsI op):=by
 unfold spec_l2Kids kidsI
 by_cases h1:op=1
 ·simp [h1]
 by_cases h2:op=2
 ·simp [h2]
 by_cases h3:op=11
 ·simp [h3]
 by_cases h4:op=12
 ·simp [h4]
 by_cases h5:op=13
 ·simp [h5]
 simp [h1,h2,h3,h4,h5]
def sgO (op:Int):St_sign_level:=(MapS.get glob_impl_opSign op).getD ⟨mkS [],0⟩
theorem sg_none {op:Int} (h:¬ (3≤op∧op≤10)):sgO op=⟨mkS [],0⟩:=by
 unfold sgO
 cases hg:MapS.get glob_impl_opSign op with
 | none=>rfl
 | some v =>
  exfalso
  have hm:=(lookM_some glob_impl_opSign.nodup).1 hg
  unfold glob_impl_opSign at hm
  simp only [List.mem_cons,Prod.mk.injEq,List.not_mem_nil,or_false] at hm
  omega
theorem sg_level (op:Int):(sgO op).level=if 3≤op∧op≤10 then lvI op else 0:=by
 by_cases h:3≤op∧op≤10
 ·rw [if_pos h]
  have:op=3∨op=4∨op=5∨op=6∨op=7∨op=8∨op=9∨op=10:=by omega
  rcases this with rfl | rfl | rfl | rfl | rfl | rfl | rfl | rfl<;>rfl
 ·rw [if_neg h,sg_none h]
theorem levelOf_ok (op:Int):impl_levelOf op=some (lvI op):=by
  unfold impl_levelOf
  show (if decide (0<(sgO op).level) then some (sgO op).level else _)=_
  rw [sg_level]
  by_cases h:3≤op∧op≤10
  · rw [if_pos h]
    have : 0 < lvI op := by unfold lvI; repeat' split
                            all_goals omega
    simp [this]
  · rw [if_neg h]
    unfold lvI
    by_cases h1:op=11
    · simp [h1]
    by_cases h2:op=12
    · simp [h2]
    have:¬ op=10∧¬ (op=8∨op=9)∧¬ (op=3∨op=4)∧¬ (op=5∨op=6∨op=7):=by omega
    simp [h1,h2,this]
end Prg
end Go.Wk
namespace Go.Wk
open Go
namespace Prg
set_option maxRecDepth 10000
theorem byte_ok (n:Int):impl_isByte n=some (inB n 0 255):=by
 unfold impl_isByte;rw [within_ok];rfl
theorem sg_lv (op:Int):((MapS.get glob_impl_opSign op).getD (⟨mkS [],0⟩:St_sign_level)).level=if 3≤op∧op≤10 then lvI op else 0:=sg_level op
theorem size_head (e : Expr_) (most : Int) : impl_exprSize e most = if headB e && decide (1 ≤ most) then
  Option.bind (forN (λ(i1_1:Int) (xs1_1:Int × Int)=>(Option.bind (getI e.kids i1_1) λx1_1=>Option.bind (impl_exprSize x1_1 (w64 (most - 1))) λr1_4=>if !(r1_4.2.2) then some (.inr (0,0,false)) else some (.inl (w64 (xs1_1.1+r1_4.1),(maxI xs1_1.2 (w64 (r1_4.2.1+1))))):Option ((Int × Int) ⊕ (Int × Int × Bool)))) (((e.kids.length:Int):Int) - 0).toNat 0 (1,1)) (Sum.elim (λxs0_1=>some (xs0_1.1,xs0_1.2,decide (xs0_1.1≤30))) (λe0=>some e0)) else some (0,0,false):=by
 rw [impl_exprSize]
 generalize Option.bind (forN (λ(i1_1:Int) (xs1_1:Int × Int)=>(Option.bind (getI e.kids i1_1) λx1_1=>Option.bind (impl_exprSize x1_1 (w64 (most - 1))) λr1_4=>if !(r1_4.2.2) then some (.inr (0,0,false)) else some (.inl (w64 (xs1_1.1+r1_4.1),(maxI xs1_1.2 (w64 (r1_4.2.1+1))))):Option ((Int × Int) ⊕ (Int × Int × Bool)))) (((e.kids.length:Int):Int) - 0).toNat 0 (1,1)) (Sum.elim (λxs0_1=>some (xs0_1.1,xs0_1.2,decide (xs0_1.1≤30))) (λe0=>some e0))=L
 simp only [byte_ok,name_ok,within_ok,levelOf_ok,sg_lv,Option.bind_some]
 have em:decide (most<1)=!decide (1≤most):=by
  by_cases h:1≤most
  ·have : ¬ most < 1 := by omega
   simp [h,this]
  ·have : most < 1 := by omega
   simp [h,this]
 rw [em]
 generalize decide (1≤most)=b
 obtain ⟨op,n,nm,ks⟩:=e
 unfold headB
 dsimp only
 have hn:n=0→inB n 0 255=true:=λh=>by rw [h];rfl
 cases hop:inB op 1 13 with
 | true =>
  cases hc:inB (ks.length:Int) (kidsI op).1 (kidsI op).2
  all_goals rcases op_cases hop with rfl | rfl | rfl | rfl | rfl | rfl | rfl | rfl | rfl | rfl | rfl | rfl | rfl
  all_goals
   simp only [lvI,kidsI] at hc ⊢
   simp at hc ⊢
   cases nameB nm<;>cases h3:inB n 0 255<;>cases b<;>by_cases h1:nm=mkS []<;>by_cases h2:n=0<;>first | (simp [h1,h2,hc];done) | (exfalso;rw [hn h2] at h3;cases h3)
 | false =>
  have:¬ (1≤op∧op≤13):=λh=>by rw [inB_iff.2 h] at hop;cases hop
  have a1:op≠1:=by omega
  have a2:op≠2:=by omega
  have a3:op≠13:=by omega
  have a4:op≠11:=by omega
  have a5:op≠12:=by omega
  have a6:¬ (3≤op∧op≤10):=by omega
  simp [a1,a2,a3,a4,a5,a6]
def pbd:Nat→Nat
 | 0=>0
 | d+1=>1+3*pbd d
theorem form_kids {d:Nat} {e:Expr_} (h:formE (d+1) e=true):headB e=true∧∀ k∈e.kids,formE d k=true:=by
 rw [formE,Bool.and_eq_true,List.all_eq_true] at h;exact h
theorem head_kids {e:Expr_} (h:headB e=true):e.kids.length≤3:=by
  unfold headB at h
  simp only [Bool.and_eq_true] at h
  have h2:=inB_iff.1 h.2.1
  have : (kidsI e.op).2 ≤ 3 := by unfold kidsI; repeat' split
                                  all_goals simp
  omega
theorem partsL_le {n:Nat}:∀ {l:List Expr_},(∀ k∈l,partsE k≤n)→partsL l≤l.length*n
 | [],_=>by rw [partsL_nil];omega
 | k::l,h=>by
  have h1:=h k (by simp)
  have h2:=partsL_le (l:=l) λx hx=>h x (by simp [hx])
  rw [partsL_cons,List.length_cons,Nat.succ_mul];omega
theorem form_parts:∀ {d:Nat} {e:Expr_},formE d e=true→partsE e≤pbd d
 | 0,e,h=>by rw [formE] at h;cases h
 | d+1,e,h=>by
  obtain ⟨h1,h2⟩:=form_kids h
  have h3:=partsL_le (n:=pbd d) (l:=e.kids) λk hk=>form_parts (h2 k hk)
  have h4:e.kids.length*pbd d≤3*pbd d:=Nat.mul_le_mul_right _ (head_kids h1)
  rw [partsE_eq,pbd];omega
theorem form_ok:∀ (e:Expr_) (d:Int),d≤1000→-1000≤d→spec_l2Form e d=some (formE d.toNat e):=by
 intro e
 induction e using exprInd with
 | h e ih =>
  intro d hd hd2
  rw [spec_l2Form,kids_ok,Option.bind_some]
  simp only [l1In_ok,nameS_ok,Option.bind_some]
  by_cases h1:d<1
  ·have : d.toNat = 0 := by omega
   rw [this,formE]
   simp [h1]
  obtain ⟨m,hdm⟩:∃ m:Nat,d=(m:Int)+1:=⟨d.toNat - 1,by omega⟩
  have hm:d.toNat=m+1:=by omega
  rw [hm,formE]
  have hk:∀ k∈e.kids,spec_l2Form k (w64 (d - 1))=some (formE m k):=by
   intro k hk
   rw [w64_id (by omega) (by omega),ih k hk _ (by omega) (by omega)]
   congr 2;omega
  have hl:forN (λ(i1_1:Int) (xs1_1:Unit)=>(Option.bind (getI e.kids i1_1) λx1_1=>Option.bind (spec_l2Form x1_1 (w64 (d - 1))) λr1_6=>if !(r1_6) then some (.inr false) else some (.inl ()):Option ((Unit) ⊕ (Bool)))) (((e.kids.length:Int):Int) - 0).toNat 0 ()=if e.kids.all (formE m) then some (.inl ()) else some (.inr false):=by
   rw [forN_any (xs:=e.kids) (body:=(λ(i1_1:Int) (xs1_1:Unit)=>(Option.bind (getI e.kids i1_1) λx1_1=>Option.bind (spec_l2Form x1_1 (w64 (d - 1))) λr1_6=>if !(r1_6) then some (.inr false) else some (.inl ()):Option ((Unit) ⊕ (Bool))))) (λk=>!formE m k) false (λl x r he=>by
    rw [he,getI_mid,Option.bind_some,hk x (by rw [he];simp),Option.bind_some])]
   have:e.kids.any (λk=>!formE m k)=!e.kids.all (formE m):=by rw [List.not_all_eq_any_not]
   rw [this]
   cases e.kids.all (formE m)<;>rfl
  rw [hl]
  have e1:decide (d<1)=false:=by simp;omega
  rw [e1]
  unfold headB
  cases inB e.op 1 13 with
  | false=>rfl
  | true =>
  cases inB (e.kids.length:Int) (kidsI e.op).1 (kidsI e.op).2 with
  | false=>rfl
  | true =>
  have e2:(if decide (e.op=2) then some true else some (decide (e.op=13)):Option Bool)=some (decide (e.op=2∨e.op=13)):=by by_cases h:e.op=2<;>simp [h]
  simp only [Bool.false_eq_true,if_false,Bool.not_true,e2,Option.bind_some,Bool.true_and]
  have hn:nameB (mkS [])=false:=rfl
  have h0:e.n_=0→inB e.n_ 0 255=true:=λh=>by rw [h];rfl
  by_cases h:e.op=2∨e.op=13
  ·have h5 : ¬ e.op = 1 := by omega
   cases nameB e.name<;>cases h3:inB e.n_ 0 255<;>cases e.kids.all (formE m)<;>by_cases h6:e.n_=0<;>first | (simp [h,h5,h6];done) | (exfalso;rw [h0 h6] at h3;cases h3)
  ·by_cases h7:e.name=mkS []
   ·rw [h7,hn]
    cases h3:inB e.n_ 0 255<;>cases e.kids.all (formE m)<;>by_cases h6:e.n_=0<;>by_cases h5:e.op=1<;>first | (simp [h,h5,h6];done) | (exfalso;rw [h0 h6] at h3;cases h3)
   ·cases nameB e.name<;>cases h3:inB e.n_ 0 255<;>cases e.kids.all (formE m)<;>by_cases h6:e.n_=0<;>by_cases h5:e.op=1<;>first | (simp [h,h5,h6,h7];done) | (exfalso;rw [h0 h6] at h3;cases h3)
theorem parts_ok:∀ (e:Expr_),partsE e≤1000000→spec_l2Parts e=some (partsE e:Int):=by
 intro e
 induction e using exprInd with
 | h e ih =>
  intro he
  rw [spec_l2Parts]
  rw [partsE_eq] at he ⊢
  rcases forN_list (xs := e.kids) (body := (fun (i1_1 : Int) (xs1_1 : Int) => (Option.bind (getI e.kids i1_1) fun x1_1 => Option.bind (spec_l2Parts x1_1) fun r1_1 => some (.inl (w64 (xs1_1 + r1_1))) : Option ((Int) ⊕ (Empty))))) (s := 1) (fun l s => s = ((1 + partsL l : Nat) : Int)) (fun _ => False) (by rw [partsL_nil]; rfl) (fun l x r s hx hI => .inl (by
   have hp:=parts_mem (k:=x) (l:=e.kids) (by rw [hx];simp)
   have hp2:partsL e.kids=partsL l+(partsE x+partsL r):=by rw [hx,partsL_app,partsL_cons]
   refine ⟨_,?_,rfl⟩
   subst hI
   have hw:w64 (((1+partsL l:Nat):Int)+(partsE x:Int))=((1+partsL (l++[x]):Nat):Int):=by
    rw [w64_id (by omega) (by omega),partsL_app,partsL_cons,partsL_nil];omega
   rw [show getI e.kids (l.length:Int)=some x by rw [hx,getI_mid],Option.bind_some,ih x (by rw [hx];simp) (by omega),Option.bind_some,hw])) with ⟨s,h1,h2⟩ | ⟨y,h1,h2⟩
  ·rw [h1,h2];rfl
  ·exact h2.elim
theorem validS_E (e:Expr_):spec_ExprValid e=some (validB e):=by
 unfold spec_ExprValid validB
 rw [form_ok e 6 (by omega) (by omega),Option.bind_some]
 rw [show (6:Int).toNat=6 from rfl]
 cases h:formE 6 e with
 | false=>rfl
 | true =>
  have:=form_parts h
  rw [parts_ok e (Nat.le_trans this (by decide))]
  have:decide ((partsE e:Int)≤30)=decide (partsE e≤30):=by rw [decide_eq_decide];omega
  simp [this]
theorem size_ok:∀ (e:Expr_) (d:Nat),d≤6→∃ p h ok,impl_exprSize e (d:Int)=some (p,h,ok)∧ok=(formE d e&&decide (partsE e≤30))∧(ok=true→p=(partsE e:Int)∧0≤h∧h≤(d:Int)):=by
 intro e
 induction e using exprInd with
 | h e ih =>
  intro d hd
  rw [size_head]
  cases d with
  | zero=>exact ⟨0,0,false,by simp,by rw [formE];rfl,λh=>by cases h⟩
  | succ d =>
  generalize hD:((d+1:Nat):Int)=D
  have e1:decide ((1:Int)≤D)=true:=by simp;omega
  rw [e1,Bool.and_true,formE]
  cases hh:headB e with
  | false=>exact ⟨0,0,false,rfl,rfl,λh=>by cases h⟩
  | true =>
  rw [if_pos rfl]
  have hk3:=head_kids hh
  rcases forN_list (xs:=e.kids) (body:=(λ(i1_1:Int) (xs1_1:Int × Int)=>(Option.bind (getI e.kids i1_1) λx1_1=>Option.bind (impl_exprSize x1_1 (w64 (D - 1))) λr1_4=>if !(r1_4.2.2) then some (.inr (0,0,false)) else some (.inl (w64 (xs1_1.1+r1_4.1),(maxI xs1_1.2 (w64 (r1_4.2.1+1))))):Option ((Int × Int) ⊕ (Int × Int × Bool))))) (s:=(1,1)) (λl s=>s.1=((1+partsL l:Nat):Int)∧0≤s.2∧s.2≤D∧l.all (formE d)=true∧partsL l≤l.length*30) (λy=>y=(0,0,false)∧(e.kids.all (formE d)&&decide (1+partsL e.kids≤30))=false) ⟨by rw [partsL_nil];rfl,by simp,by simp only [];omega,rfl,by rw [partsL_nil];simp⟩ (λl x r s hx hI=>by
   have hp2:partsL e.kids=partsL l+(partsE x+partsL r):=by rw [hx,partsL_app,partsL_cons]
   obtain ⟨p,h,ok,g1,g2,g3⟩:=ih x (by rw [hx];simp) d (by omega)
   have hll:l.length≤3:=by
    have:=congrArg List.length hx
    simp at this
    omega
   have g0:w64 (D - 1)=(d:Int):=by rw [w64_id (by omega) (by omega)];omega
   have gg:getI e.kids (l.length:Int)=some x:=by rw [hx,getI_mid]
   cases hok:ok with
   | false =>
    refine .inr ⟨_,?_,rfl,?_⟩
    ·rw [gg,Option.bind_some,g0,g1,hok];rfl
    ·rw [hok] at g2
     rw [hx,List.all_append,List.all_cons]
     cases h1:formE d x with
     | false=>simp
     | true =>
      rw [h1] at g2
      simp at g2
      have:¬ 1+partsL e.kids≤30:=by omega
      rw [hx] at this
      simp [this]
   | true =>
    obtain ⟨g4,g5,g6⟩:=g3 hok
    rw [hok] at g2
    have g7:=g2.symm
    rw [Bool.and_eq_true,decide_eq_true_iff] at g7
    obtain ⟨i1,i2,i3,i4,i5⟩:=hI
    have hle:partsL l≤3*30:=Nat.le_trans i5 (Nat.mul_le_mul_right _ hll)
    refine .inl ⟨(w64 (s.1+p),maxI s.2 (w64 (h+1))),?_,?_,?_,?_,?_,?_⟩
    ·rw [gg,Option.bind_some,g0,g1,hok];rfl
    ·rw [i1,g4,w64_id (by omega) (by omega),partsL_app,partsL_cons,partsL_nil];omega
    ·show 0 ≤ maxI s.2 (w64 (h + 1))
     rw [w64_id (by omega) (by omega)];unfold maxI;split<;>omega
    ·show maxI s.2 (w64 (h + 1)) ≤ _
     rw [w64_id (by omega) (by omega)];unfold maxI;split<;>omega
    ·rw [List.all_append,i4,List.all_cons,g7.1];rfl
    ·rw [partsL_app,partsL_cons,partsL_nil,List.length_append,List.length_cons,List.length_nil,Nat.add_mul];omega) with ⟨s,h1,h2⟩ | ⟨y,h1,h2,h3⟩
  ·obtain ⟨i1,i2,i3,i4,i5⟩:=h2
   refine ⟨s.1,s.2,decide (s.1≤30),by rw [h1];rfl,?_,λ_=>⟨by rw [i1,partsE_eq],i2,i3⟩⟩
   rw [i4,Bool.true_and,Bool.true_and,i1,partsE_eq,decide_eq_decide];omega
  ·refine ⟨0, 0, false, by rw [h1, h2]; rfl, ?_, fun h => by cases h⟩
   rw [Bool.true_and,partsE_eq,h3]
theorem valid_E (e:Expr_):impl_ExprValid e=some (validB e):=by
 unfold impl_ExprValid validB
 obtain ⟨p,h,ok,h1,h2,h3⟩:=size_ok e 6 (by omega)
 rw [show (6:Int)=((6:Nat):Int) from rfl,h1,Option.bind_some,h2]
end Prg
end Go.Wk
namespace Go.Wk
open Go
namespace Prg
set_option maxRecDepth 10000
def isT (ws:List Word_) (t:Str):Bool:=match ws with
 | []=>false
 | w::_=>decide (w.text=t)
def pkW (ws:List Word_):Word_:=match ws with
 | []=>⟨0,mkS []⟩
 | w::_=>w
theorem peek_ok (ws:List Word_) (b:Bool):pimpl_wordReader__peek ⟨ws,b⟩=some (pkW ws):=by
 unfold pimpl_wordReader__peek
 cases ws with
 | nil=>rfl
 | cons w ws =>
  have:decide (((w::ws).length:Int)=0)=false:=by simp;omega
  rw [this];rfl
theorem next_nil (b:Bool):pimpl_wordReader__next ⟨[],b⟩=some (⟨0,mkS []⟩,⟨[],true⟩):=by
 unfold pimpl_wordReader__next
 rw [peek_ok];rfl
theorem sub_tail (w:Word_) (ws:List Word_):subM (w::ws) 1 ((w::ws).length:Int)=some ws:=by
 unfold subM
 rw [if_pos ⟨by omega,by simp;omega,by omega⟩]
 simp
theorem next_cons (w:Word_) (ws:List Word_) (b:Bool):pimpl_wordReader__next ⟨w::ws,b⟩=some (w,⟨ws,b⟩):=by
 unfold pimpl_wordReader__next
 have:decide (((w::ws).length:Int)=0)=false:=by simp;omega
 rw [peek_ok,Option.bind_some]
 dsimp only
 rw [this,sub_tail];rfl
def tkW (ws:List Word_) (k:Int) (t:Str):Bool:=match ws with
 | []=>false
 | w::_=>decide (w.kind=k)&&decide (w.text=t)
theorem take_ok (ws:List Word_) (b:Bool) (k:Int) (t:Str):pimpl_wordReader__take ⟨ws,b⟩ k t=some (tkW ws k t,⟨if tkW ws k t then ws.tail else ws,b⟩):=by
 unfold pimpl_wordReader__take
 rw [peek_ok,Option.bind_some]
 cases ws with
 | nil=>rfl
 | cons w ws =>
  have:decide (((w::ws).length:Int)=0)=false:=by simp;omega
  show Option.bind (if decide (((w::ws).length:Int)=0) then _ else if decide (w.kind≠k) then some true else some (decide (w.text≠t))) (λs=>if s then _ else Option.bind (subM (w::ws) 1 ((w::ws).length:Int)) _)=_
  rw [this,sub_tail]
  unfold tkW
  by_cases h1:w.kind=k<;>by_cases h2:w.text=t<;>simp [h1,h2]
theorem want_ok (ws:List Word_) (b:Bool) (k:Int) (t:Str):pimpl_wordReader__want ⟨ws,b⟩ k t=some ⟨if tkW ws k t then ws.tail else ws,if tkW ws k t then b else true⟩:=by
 unfold pimpl_wordReader__want
 rw [take_ok,Option.bind_some]
 cases tkW ws k t<;>rfl
theorem sign_kind {w:Word_} {c:UInt8} (hw:wordB w=true) (hb:w.text.b=[c]) (hc:c∈sgnL):w.kind=3:=by
 have hcl:letB c=false∧digB c=false:=by
  have key:∀ c∈sgnL,letB c=false∧digB c=false:=by decide
  exact key c hc
 unfold wordB at hw
 by_cases h1:w.kind=1
 ·rw [if_pos h1] at hw
  unfold nameB at hw
  rw [hb] at hw
  simp [hcl.1] at hw
 rw [if_neg h1] at hw
 by_cases h2:w.kind=2
 ·rw [if_pos h2] at hw
  unfold numI at hw
  rw [hb] at hw
  simp [hcl.2] at hw
 rw [if_neg h2] at hw
 by_cases h3:w.kind=3
 ·exact h3
 rw [if_neg h3] at hw
 by_cases h4:w.kind=4
 ·rw [if_pos h4] at hw
  have:=key_let hb hw
  rw [hcl.1] at this;cases this
 ·rw [if_neg h4] at hw;cases hw
theorem tk_is {ws:List Word_} (hw:∀ w∈ws,wordB w=true) {t:Str} {c:UInt8} (ht:t.b=[c]) (hc:c∈sgnL):tkW ws 3 t=isT ws t:=by
 cases ws with
 | nil=>rfl
 | cons w ws =>
  unfold tkW isT
  by_cases h:w.text=t
  ·have := sign_kind (hw w (by simp)) (by rw [h]; exact ht) hc
   simp [h,this]
  ·simp [h]
theorem is_ok (list:List Word_) (n:Nat) (t:Str):spec_l2Is list (n:Int) t=some (isT (list.drop n) t):=by
 unfold spec_l2Is isT
 by_cases h:n<list.length
 ·have h1 : decide ((n : Int) < (list.length : Int)) = true := by simp; omega
  rw [h1,if_pos rfl,getI_nat,List.getElem?_eq_getElem h,List.drop_eq_getElem_cons h];rfl
 ·have h1 : decide ((n : Int) < (list.length : Int)) = false := by simp; omega
  rw [h1,List.drop_eq_nil_of_le (by omega)];rfl
def opW (lv:Int) (w:Word_):Int :=
 if lv=1 then (if w.text=mkS [38] then 10 else 0)
 else if lv=2 then (if w.text=mkS [60] then 8 else if w.text=mkS [61] then 9 else 0)
 else if lv=3 then (if w.text=mkS [43] then 3 else if w.text=mkS [45] then 4 else 0)
 else (if w.text=mkS [42] then 5 else if w.text=mkS [47] then 6 else if w.text=mkS [37] then 7 else 0)
def opT (lv:Int) (ws:List Word_):Int:=match ws with
 | []=>0
 | w::_=>opW lv w
theorem sign_3:spec_l2Sign 3=some (mkS [43]):=rfl
theorem sign_4:spec_l2Sign 4=some (mkS [45]):=rfl
theorem sign_5:spec_l2Sign 5=some (mkS [42]):=rfl
theorem sign_6:spec_l2Sign 6=some (mkS [47]):=rfl
theorem sign_7:spec_l2Sign 7=some (mkS [37]):=rfl
theorem sign_8:spec_l2Sign 8=some (mkS [60]):=rfl
theorem sign_9:spec_l2Sign 9=some (mkS [61]):=rfl
theorem sign_10:spec_l2Sign 10=some (mkS [38]):=rfl
theorem sign_11:spec_l2Sign 11=some (mkS [33]):=rfl
theorem sign_12:spec_l2Sign 12=some (mkS [64]):=rfl
theorem op_ok (list:List Word_) (n:Nat) (lv:Int) (hl:lv=1∨lv=2∨lv=3∨lv=4):spec_l2Op list (n:Int) lv=some (opT lv (list.drop n)):=by
 unfold spec_l2Op
 have e:(((10)+1:Int) - 3).toNat=8:=rfl
 rw [e]
 rcases hl with rfl | rfl | rfl | rfl
 all_goals
  simp only [forN,level_ok,lvI,Option.bind_some,is_ok]
  simp [sign_3,sign_4,sign_5,sign_6,sign_7,sign_8,sign_9,sign_10,is_ok]
  unfold opT isT
  cases list.drop n with
  | nil=>rfl
  | cons w r =>
   unfold opW
   dsimp only
   repeat' split
   all_goals simp_all
theorem rangeM_pick {α S : Type} (q : α → Bool) (f : α → S) (K : S) {body : α → S → Option S} (hb : ∀ p s, body p s = some (if q p then f p else s)) : ∀ (fs : List α) (s : S), (∀ p ∈ fs, q p = true → f p = K) → rangeM body fs s = some (if fs.any q then K else s)
 | [],s,_=>rfl
 | p::fs,s,h=>by
  rw [rangeM,hb,Option.bind_some,rangeM_pick q f K hb fs _ λp hp=>h p (by simp [hp])]
  rw [List.any_cons]
  cases hq:q p with
  | true =>
   rw [h p (by simp) hq]
   cases fs.any q<;>rfl
  | false=>rfl
theorem any_perm {α:Type} {q:α→Bool} {fs es:List α} (hp:fs.Perm es):fs.any q=es.any q:=by
 cases h:es.any q with
 | true =>
  obtain ⟨x,h1,h2⟩:=List.any_eq_true.1 h
  exact List.any_eq_true.2 ⟨x,hp.mem_iff.2 h1,h2⟩
 | false =>
  rw [List.any_eq_false] at h ⊢
  exact λx hx=>h x (hp.mem_iff.1 hx)
theorem rangeP_pick {α S:Type} (q:α→Bool) (f:α→S) (K:S) {body:α→S→Option S} (hb:∀ p s,body p s=some (if q p then f p else s)) {es:List α} {s:S} (h:∀ p∈es,q p=true→f p=K):rangeP body es s=some (if es.any q then K else s) :=
 rangeP_ok λfs hp=>by
  rw [rangeM_pick q f K hb fs s λp hx=>h p (hp.mem_iff.1 hx),any_perm hp]
def qE (lv:Int) (ws:List Word_) (p:Int × St_sign_level):Bool:=decide (p.2.level=lv)&&(decide ((pkW ws).kind=3)&&decide ((pkW ws).text=p.2.sign))
theorem opI_ok (ws : List Word_) (hw : ∀ w ∈ ws, wordB w = true) (lv : Int) (hl : lv = 1 ∨ lv = 2 ∨ lv = 3 ∨ lv = 4) {body : Int × St_sign_level → Int → Option Int} (hb : ∀ p s, body p s = some (if qE lv ws p then p.1 else s)) :
  rangeP body (glob_impl_opSign:MapS St_sign_level).es 0=some (opT lv ws):=by
 have hes:∀ p∈glob_impl_opSign.es,p=(3,⟨mkS [43],3⟩)∨p=(4,⟨mkS [45],3⟩)∨p=(5,⟨mkS [42],4⟩)∨p=(6,⟨mkS [47],4⟩)∨p=(7,⟨mkS [37],4⟩)∨p=(8,⟨mkS [60],2⟩)∨p=(9,⟨mkS [61],2⟩)∨p=(10,⟨mkS [38],1⟩):=by
  intro p hp
  unfold glob_impl_opSign at hp
  simpa only [List.mem_cons,List.not_mem_nil,or_false] using hp
 have hq:∀ p∈glob_impl_opSign.es,qE lv ws p=true→p.1=opT lv ws:=by
  intro p hp hq
  cases ws with
  | nil=>simp [qE,pkW] at hq
  | cons w r =>
   unfold qE at hq
   simp only [Bool.and_eq_true,decide_eq_true_iff,pkW] at hq
   obtain ⟨h1,_,h2⟩:=hq
   replace h2:=of_decide_eq_true h2
   show p.1=opW lv w
   unfold opW
   rw [h2,← h1]
   rcases hes p hp with rfl | rfl | rfl | rfl | rfl | rfl | rfl | rfl<;>rfl
 rw [rangeP_pick (qE lv ws) (λp=>p.1) (opT lv ws) hb hq]
 cases h:glob_impl_opSign.es.any (qE lv ws) with
 | true=>rfl
 | false =>
  cases ws with
  | nil=>rfl
  | cons w r =>
   have key:∀ p∈glob_impl_opSign.es,p.2.level=lv→w.text=p.2.sign→False:=by
    intro p hp h1 h2
    have hn:=List.any_eq_false.1 h p hp
    apply hn
    obtain ⟨c,h3,h4⟩:∃ c,p.2.sign.b=[c]∧c∈sgnL:=by
     rcases hes p hp with rfl | rfl | rfl | rfl | rfl | rfl | rfl | rfl<;>exact ⟨_,rfl,by decide⟩
    have h5:=sign_kind (hw w (by simp)) (by rw [h2];exact h3) h4
    unfold qE
    simp [pkW,h1,h2,h5]
   have n3:lv=3→w.text≠mkS [43]:=λh h2=>key (3,⟨mkS [43],3⟩) (by simp [glob_impl_opSign]) h.symm h2
   have n4:lv=3→w.text≠mkS [45]:=λh h2=>key (4,⟨mkS [45],3⟩) (by simp [glob_impl_opSign]) h.symm h2
   have n5:lv=4→w.text≠mkS [42]:=λh h2=>key (5,⟨mkS [42],4⟩) (by simp [glob_impl_opSign]) h.symm h2
   have n6:lv=4→w.text≠mkS [47]:=λh h2=>key (6,⟨mkS [47],4⟩) (by simp [glob_impl_opSign]) h.symm h2
   have n7:lv=4→w.text≠mkS [37]:=λh h2=>key (7,⟨mkS [37],4⟩) (by simp [glob_impl_opSign]) h.symm h2
   have n8:lv=2→w.text≠mkS [60]:=λh h2=>key (8,⟨mkS [60],2⟩) (by simp [glob_impl_opSign]) h.symm h2
   have n9:lv=2→w.text≠mkS [61]:=λh h2=>key (9,⟨mkS [61],2⟩) (by simp [glob_impl_opSign]) h.symm h2
   have n10:lv=1→w.text≠mkS [38]:=λh h2=>key (10,⟨mkS [38],1⟩) (by simp [glob_impl_opSign]) h.symm h2
   show some 0=some (opW lv w)
   unfold opW
   rcases hl with rfl | rfl | rfl | rfl
   ·simp [n10 rfl]
   ·simp [n8 rfl,n9 rfl]
   ·simp [n3 rfl,n4 rfl]
   ·simp [n5 rfl,n6 rfl,n7 rfl]
end Prg
end Go.Wk
namespace Go.Wk
open Go
namespace Prg
set_option maxRecDepth 10000
inductive Job where
 | E (lv:Int) (ws:List Word_) (e:Expr_) (r:List Word_)
 | L (lv:Int) (x:Expr_) (ws:List Word_) (e:Expr_) (r:List Word_)
 | A (ws:List Word_) (ks:List Expr_) (r:List Word_)
 | M (acc:List Expr_) (ws:List Word_) (ks:List Expr_) (r:List Word_)
inductive Rd:Job→Prop
 | neg {w ws e r}:w.text=mkS [33]→Rd (.E 5 ws e r)→Rd (.E 5 (w::ws) ⟨11,0,mkS [],[e]⟩ r)
 | at_ {w ws e r}:w.text=mkS [64]→Rd (.E 5 ws e r)→Rd (.E 5 (w::ws) ⟨12,0,mkS [],[e]⟩ r)
 | par {w ws e v r}:w.text=mkS [40]→Rd (.E 1 ws e (v::r))→v.text=mkS [41]→Rd (.E 5 (w::ws) e r)
 | num {w r}:w.kind=2→Rd (.E 5 (w::r) ⟨1,numW w,mkS [],[]⟩ r)
 | var {w r}:w.kind=1→isT r (mkS [40])=false→Rd (.E 5 (w::r) ⟨2,0,w.text,[]⟩ r)
 | call {w v ws ks r}:w.kind=1→v.text=mkS [40]→Rd (.A ws ks r)→Rd (.E 5 (w::v::ws) ⟨13,0,w.text,ks⟩ r)
 | up {lv ws e ws' e' r}:(lv=1∨lv=2∨lv=3∨lv=4)→Rd (.E (lv+1) ws e ws')→Rd (.L lv e ws' e' r)→Rd (.E lv ws e' r)
 | stop {lv e ws}:opT lv ws=0→Rd (.L lv e ws e ws)
 | step {lv e w ws f ws' e' r}:opW lv w≠0→Rd (.E (lv+1) ws f ws')→Rd (.L lv ⟨opW lv w,0,mkS [],[e,f]⟩ ws' e' r)→Rd (.L lv e (w::ws) e' r)
 | done {v r}:v.text=mkS [41]→Rd (.A (v::r) [] r)
 | first {ws e ws' ks r}:isT ws (mkS [41])=false→Rd (.E 1 ws e ws')→Rd (.M [e] ws' ks r)→Rd (.A ws ks r)
 | last {acc v r}:v.text=mkS [41]→Rd (.M acc (v::r) acc r)
 | more {acc v ws e ws' ks r}:v.text=mkS [44]→Rd (.E 1 ws e ws')→Rd (.M (acc++[e]) ws' ks r)→Rd (.M acc (v::ws) ks r)
def sufJ:Job→Prop
 | .E _ ws _ r=>r.length<ws.length∧∀ x∈r,x∈ws
 | .L _ _ ws _ r=>r.length≤ws.length∧∀ x∈r,x∈ws
 | .A ws _ r=>r.length<ws.length∧∀ x∈r,x∈ws
 | .M _ ws _ r=>r.length<ws.length∧∀ x∈r,x∈ws
theorem rd_suf {j:Job} (h:Rd j):sufJ j:=by
 induction h<;>simp only [sufJ,List.length_cons,List.mem_cons] at *
 case neg ih=>exact ⟨by omega,λx hx=>.inr (ih.2 x hx)⟩
 case at_ ih=>exact ⟨by omega,λx hx=>.inr (ih.2 x hx)⟩
 case par ih=>exact ⟨by omega,λx hx=>.inr (ih.2 x (.inr hx))⟩
 case num=>exact ⟨by omega,λx hx=>.inr hx⟩
 case var=>exact ⟨by omega,λx hx=>.inr hx⟩
 case call ih=>exact ⟨by omega,λx hx=>.inr (.inr (ih.2 x hx))⟩
 case up ih1 ih2=>exact ⟨by omega,λx hx=>ih1.2 x (ih2.2 x hx)⟩
 case stop=>exact ⟨by omega,λx hx=>hx⟩
 case step ih1 ih2=>exact ⟨by omega,λx hx=>.inr (ih1.2 x (ih2.2 x hx))⟩
 case done=>exact ⟨by omega,λx hx=>.inr hx⟩
 case first ih1 ih2=>exact ⟨by omega,λx hx=>ih1.2 x (ih2.2 x hx)⟩
 case last=>exact ⟨by omega,λx hx=>.inr hx⟩
 case more ih1 ih2=>exact ⟨by omega,λx hx=>.inr (ih1.2 x (ih2.2 x hx))⟩
def AtW (list:List Word_) (n:Nat) (ws:List Word_):Prop:=list.drop n=ws∧n≤list.length
theorem at_cons {list:List Word_} {n:Nat} {w:Word_} {ws:List Word_} (h:AtW list n (w::ws)):n<list.length∧getI list (n:Int)=some w∧AtW list (n+1) ws:=by
 obtain ⟨h1,h2⟩:=h
 have hlt:n<list.length:=by
  rcases Nat.lt_or_ge n list.length with h | h
  ·exact h
  ·rw [List.drop_eq_nil_of_le h] at h1;cases h1
 rw [List.drop_eq_getElem_cons hlt] at h1
 cases h1
 exact ⟨hlt,by rw [getI_nat,List.getElem?_eq_getElem hlt],rfl,hlt⟩
theorem at_nil {list:List Word_} {n:Nat} (h:AtW list n []):n=list.length:=by
 have:=List.drop_eq_nil_iff.1 h.1
 have:=h.2
 omega
theorem at_is {list:List Word_} {n:Nat} {ws:List Word_} (h:AtW list n ws) (t:Str):spec_l2Is list (n:Int) t=some (isT ws t):=by rw [is_ok,h.1]
theorem at_op {list:List Word_} {n:Nat} {ws:List Word_} (h:AtW list n ws) {lv:Int} (hl:lv=1∨lv=2∨lv=3∨lv=4):spec_l2Op list (n:Int) lv=some (opT lv ws):=by rw [op_ok _ _ _ hl,h.1]
theorem w64_1 {n:Nat} (h:n≤2000):w64 ((n:Int)+1)=((n+1:Nat):Int):=by rw [w64_id (by omega) (by omega)];omega
theorem w64_2 {n:Nat} (h:n≤2000):w64 ((n:Int)+2)=((n+2:Nat):Int):=by rw [w64_id (by omega) (by omega)];omega
theorem tight_cons {list:List Word_} (hl:list.length≤1000) {n:Nat} {w:Word_} {ws:List Word_} (h:AtW list n (w::ws)):spec_l2Tight list (n:Int) =
  if w.text=mkS [33] then Option.bind (spec_l2Tight list ((n+1:Nat):Int)) λr=>some (⟨11,0,mkS [],[r.1]⟩,r.2)
  else if w.text=mkS [64] then Option.bind (spec_l2Tight list ((n+1:Nat):Int)) λr=>some (⟨12,0,mkS [],[r.1]⟩,r.2)
  else if w.text=mkS [40] then Option.bind (spec_l2Read list ((n+1:Nat):Int) 1) λr=>Option.bind (if decide (r.2<0) then some true else Option.bind (spec_l2Is list r.2 (mkS [41])) λb=>some (!b):Option Bool) λs=>if s then some (r.1,-1) else some (r.1,w64 (r.2+1))
  else if w.kind=2 then some (⟨1,numW w,mkS [],[]⟩,((n+1:Nat):Int))
  else if w.kind≠1 then some (⟨0,0,mkS [],[]⟩,-1)
  else if isT ws (mkS [40])=false then some (⟨2,0,w.text,[]⟩,((n+1:Nat):Int))
  else Option.bind (spec_l2List list ((n+2:Nat):Int)) λr=>some (⟨13,0,w.text,r.1⟩,r.2):=by
 obtain ⟨h1,h2,h3⟩:=at_cons h
 rw [spec_l2Tight,show (((12)+1:Int) - 11).toNat=2 from rfl]
 simp only [forN,sign_11,show ((11:Int)+1)=12 from rfl,sign_12,Option.bind_some,w64_1 (show n≤2000 by omega),w64_2 (show n≤2000 by omega),at_is h,at_is h3,h2,numberS_ok]
 have e1:decide ((n:Int)<(list.length:Int))=true:=by simp;omega
 have e2:decide ((list.length:Int)≤(n:Int))=false:=by simp;omega
 rw [e1,e2]
 unfold isT
 by_cases c1:w.text=mkS [33]
 ·simp only [c1,decide_true,if_true]
  cases spec_l2Tight list ((n+1:Nat):Int)<;>rfl
 by_cases c2:w.text=mkS [64]
 ·simp only [c1,c2,decide_true,decide_false,if_true,if_false,Bool.false_eq_true]
  cases spec_l2Tight list ((n+1:Nat):Int)<;>rfl
 by_cases c3:w.text=mkS [40]
 ·have a1 : (mkS [40] : Str) ≠ mkS [33] := by decide
  have a2:(mkS [40]:Str)≠mkS [64]:=by decide
  simp [c3,a1,a2]
 by_cases c4:w.kind=2
 ·simp [c1,c2,c3,c4]
 by_cases c5:w.kind=1
 ·cases ws with
  | nil=>simp [c1,c2,c3,c5]
  | cons v ws=>by_cases c6:v.text=mkS [40]<;>simp [c1,c2,c3,c5,c6]
 ·simp [c1,c2,c3,c4,c5]
theorem tight_nil {list:List Word_} {n:Nat} (h:AtW list n []):spec_l2Tight list (n:Int)=some (⟨0,0,mkS [],[]⟩,-1):=by
 have h1:=at_nil h
 rw [spec_l2Tight,show (((12)+1:Int) - 11).toNat=2 from rfl]
 simp only [forN,sign_11,show ((11:Int)+1)=12 from rfl,sign_12,Option.bind_some,at_is h]
 have e1:decide ((n:Int)<(list.length:Int))=false:=by simp;omega
 have e2:decide ((list.length:Int)≤(n:Int))=true:=by simp;omega
 rw [e1,e2]
 simp [isT]
theorem read5 (list:List Word_) (n:Int):spec_l2Read list n 5=spec_l2Tight list n:=by
 rw [spec_l2Read]
 rw [if_pos (by decide)]
 cases spec_l2Tight list n<;>rfl
theorem bindS {α:Type} {o:Option α}:(Option.bind o λe=>some e)=o:=by cases o<;>rfl
theorem read_lv {list:List Word_} {n lv:Int} (hl:lv=1∨lv=2∨lv=3∨lv=4):spec_l2Read list n lv=Option.bind (spec_l2Read list n (lv+1)) λr=>Option.bind (loopM (λ(xs2_1:Int × Int × Str × (List Expr_) × Int)=>(Option.bind (if decide (0≤xs2_1.2.2.2.2) then Option.bind (spec_l2Op list xs2_1.2.2.2.2 lv) λr3_1=>some (decide (0<r3_1)) else some false:Option (Bool)) λs2_1=>if s2_1 then Option.bind (spec_l2Op list xs2_1.2.2.2.2 lv) λr2_1=>Option.bind (spec_l2Read list (w64 (xs2_1.2.2.2.2+1)) (w64 (lv+1))) λr2_2=>some (.inl (r2_1,0,(mkS []),([(⟨xs2_1.1,xs2_1.2.1,xs2_1.2.2.1,xs2_1.2.2.2.1⟩:Expr_),r2_2.1]:List Expr_),r2_2.2)) else some (.inr (xs2_1.1,xs2_1.2.1,xs2_1.2.2.1,xs2_1.2.2.2.1,xs2_1.2.2.2.2)):Option ((Int × Int × Str × (List Expr_) × Int) ⊕ (Int × Int × Str × (List Expr_) × Int)))) (r.1.op,r.1.n_,r.1.name,r.1.kids,r.2)) λs=>some (⟨s.1,s.2.1,s.2.2.1,s.2.2.2.1⟩,s.2.2.2.2):=by
 have e:w64 (lv+1)=lv+1:=w64_id (by omega) (by omega)
 have e2:decide (4<lv)=false:=by simp;omega
 rw [spec_l2Read,e2]
 simp only [Bool.false_eq_true,if_false,e,bindS]
end Prg
end Go.Wk
namespace Go.Wk
open Go
namespace Prg
set_option maxRecDepth 10000
theorem mk_eta (e:Expr_):(⟨e.op,e.n_,e.name,e.kids⟩:Expr_)=e:=by cases e;rfl
theorem opW_ge (lv:Int) (w:Word_):0≤opW lv w:=by
 unfold opW;repeat' split
 all_goals decide
theorem spL_stop {list:List Word_} {n:Nat} {ws:List Word_} (h:AtW list n ws) {lv:Int} (hl:lv=1∨lv=2∨lv=3∨lv=4) (ho:opT lv ws=0) {op n_:Int} {nm:Str} {ks:List Expr_} :
  loopM (λ(xs2_1:Int × Int × Str × (List Expr_) × Int)=>(Option.bind (if decide (0≤xs2_1.2.2.2.2) then Option.bind (spec_l2Op list xs2_1.2.2.2.2 lv) λr3_1=>some (decide (0<r3_1)) else some false:Option (Bool)) λs2_1=>if s2_1 then Option.bind (spec_l2Op list xs2_1.2.2.2.2 lv) λr2_1=>Option.bind (spec_l2Read list (w64 (xs2_1.2.2.2.2+1)) (w64 (lv+1))) λr2_2=>some (.inl (r2_1,0,(mkS []),([(⟨xs2_1.1,xs2_1.2.1,xs2_1.2.2.1,xs2_1.2.2.2.1⟩:Expr_),r2_2.1]:List Expr_),r2_2.2)) else some (.inr (xs2_1.1,xs2_1.2.1,xs2_1.2.2.1,xs2_1.2.2.2.1,xs2_1.2.2.2.2)):Option ((Int × Int × Str × (List Expr_) × Int) ⊕ (Int × Int × Str × (List Expr_) × Int)))) (op,n_,nm,ks,(n:Int))=some (op,n_,nm,ks,(n:Int)):=by
 refine loopM_inr ?_
 have e1:decide (0≤(n:Int))=true:=by simp
 simp only [e1,at_op h hl,ho,Option.bind_some]
 rfl
theorem spL_bad {list:List Word_} {lv:Int} {op n_:Int} {nm:Str} {ks:List Expr_} :
  loopM (λ(xs2_1:Int × Int × Str × (List Expr_) × Int)=>(Option.bind (if decide (0≤xs2_1.2.2.2.2) then Option.bind (spec_l2Op list xs2_1.2.2.2.2 lv) λr3_1=>some (decide (0<r3_1)) else some false:Option (Bool)) λs2_1=>if s2_1 then Option.bind (spec_l2Op list xs2_1.2.2.2.2 lv) λr2_1=>Option.bind (spec_l2Read list (w64 (xs2_1.2.2.2.2+1)) (w64 (lv+1))) λr2_2=>some (.inl (r2_1,0,(mkS []),([(⟨xs2_1.1,xs2_1.2.1,xs2_1.2.2.1,xs2_1.2.2.2.1⟩:Expr_),r2_2.1]:List Expr_),r2_2.2)) else some (.inr (xs2_1.1,xs2_1.2.1,xs2_1.2.2.1,xs2_1.2.2.2.1,xs2_1.2.2.2.2)):Option ((Int × Int × Str × (List Expr_) × Int) ⊕ (Int × Int × Str × (List Expr_) × Int)))) (op,n_,nm,ks,-1)=some (op,n_,nm,ks,-1):=by
 refine loopM_inr ?_
 rfl
theorem spL_step {list:List Word_} (hlen:list.length≤1000) {n:Nat} {w:Word_} {ws:List Word_} (h:AtW list n (w::ws)) {lv:Int} (hl:lv=1∨lv=2∨lv=3∨lv=4) (ho:opW lv w≠0) {op n_:Int} {nm:Str} {ks:List Expr_} {f:Expr_} {m:Int}
  (hr:spec_l2Read list ((n+1:Nat):Int) (lv+1)=some (f,m)) :
  loopM (λ(xs2_1:Int × Int × Str × (List Expr_) × Int)=>(Option.bind (if decide (0≤xs2_1.2.2.2.2) then Option.bind (spec_l2Op list xs2_1.2.2.2.2 lv) λr3_1=>some (decide (0<r3_1)) else some false:Option (Bool)) λs2_1=>if s2_1 then Option.bind (spec_l2Op list xs2_1.2.2.2.2 lv) λr2_1=>Option.bind (spec_l2Read list (w64 (xs2_1.2.2.2.2+1)) (w64 (lv+1))) λr2_2=>some (.inl (r2_1,0,(mkS []),([(⟨xs2_1.1,xs2_1.2.1,xs2_1.2.2.1,xs2_1.2.2.2.1⟩:Expr_),r2_2.1]:List Expr_),r2_2.2)) else some (.inr (xs2_1.1,xs2_1.2.1,xs2_1.2.2.1,xs2_1.2.2.2.1,xs2_1.2.2.2.2)):Option ((Int × Int × Str × (List Expr_) × Int) ⊕ (Int × Int × Str × (List Expr_) × Int)))) (op,n_,nm,ks,(n:Int))=loopM (λ(xs2_1:Int × Int × Str × (List Expr_) × Int)=>(Option.bind (if decide (0≤xs2_1.2.2.2.2) then Option.bind (spec_l2Op list xs2_1.2.2.2.2 lv) λr3_1=>some (decide (0<r3_1)) else some false:Option (Bool)) λs2_1=>if s2_1 then Option.bind (spec_l2Op list xs2_1.2.2.2.2 lv) λr2_1=>Option.bind (spec_l2Read list (w64 (xs2_1.2.2.2.2+1)) (w64 (lv+1))) λr2_2=>some (.inl (r2_1,0,(mkS []),([(⟨xs2_1.1,xs2_1.2.1,xs2_1.2.2.1,xs2_1.2.2.2.1⟩:Expr_),r2_2.1]:List Expr_),r2_2.2)) else some (.inr (xs2_1.1,xs2_1.2.1,xs2_1.2.2.1,xs2_1.2.2.2.1,xs2_1.2.2.2.2)):Option ((Int × Int × Str × (List Expr_) × Int) ⊕ (Int × Int × Str × (List Expr_) × Int)))) (opW lv w,0,mkS [],[⟨op,n_,nm,ks⟩,f],m):=by
 obtain ⟨h1,h2,h3⟩:=at_cons h
 refine loopM_inl ?_
 have e1:decide (0≤(n:Int))=true:=by simp
 have e2:decide (0<opW lv w)=true:=by have:=opW_ge lv w;simp;omega
 have e3:w64 (lv+1)=lv+1:=w64_id (by omega) (by omega)
 have e4:spec_l2Op list (n:Int) lv=some (opW lv w):=at_op h hl
 simp only [e1,e4,e2,e3,w64_1 (show n≤2000 by omega),hr,Option.bind_some,if_true]
theorem list_eq {list:List Word_} (hlen:list.length≤1000) {n:Nat} {ws:List Word_} (h:AtW list n ws):spec_l2List list (n:Int)=if isT ws (mkS [41]) then some ([],((n+1:Nat):Int)) else loopM (λ(xs1_1:Int × (List Expr_))=>(Option.bind (spec_l2Read list xs1_1.1 1) λr1_1=>Option.bind (appM xs1_1.2 ([r1_1.1]:List Expr_)) λys1_1=>Option.bind (if decide (r1_1.2<0) then some true else Option.bind (spec_l2Is list r1_1.2 (mkS [41])) λr2_1=>some r2_1:Option (Bool)) λs1_1=>if s1_1 then Option.bind (spec_l1Step r1_1.2) λr1_2=>some (.inr (ys1_1,w64 (r1_1.2+r1_2))) else Option.bind (spec_l2Is list r1_1.2 (mkS [44])) λr1_3=>if !(r1_3) then some (.inr (ys1_1,-1)) else some (.inl (w64 (r1_1.2+1),ys1_1)):Option ((Int × (List Expr_)) ⊕ ((List Expr_) × Int)))) ((n:Int),[]):=by
 have:=h.2
 rw [spec_l2List,at_is h,Option.bind_some,w64_1 (show n≤2000 by omega),bindS]
theorem spA_bad {list:List Word_} {q:Int} {acc:List Expr_} (ha:acc.length≤1000) {e:Expr_} (hr:spec_l2Read list q 1=some (e,-1)):loopM (λ(xs1_1:Int × (List Expr_))=>(Option.bind (spec_l2Read list xs1_1.1 1) λr1_1=>Option.bind (appM xs1_1.2 ([r1_1.1]:List Expr_)) λys1_1=>Option.bind (if decide (r1_1.2<0) then some true else Option.bind (spec_l2Is list r1_1.2 (mkS [41])) λr2_1=>some r2_1:Option (Bool)) λs1_1=>if s1_1 then Option.bind (spec_l1Step r1_1.2) λr1_2=>some (.inr (ys1_1,w64 (r1_1.2+r1_2))) else Option.bind (spec_l2Is list r1_1.2 (mkS [44])) λr1_3=>if !(r1_3) then some (.inr (ys1_1,-1)) else some (.inl (w64 (r1_1.2+1),ys1_1)):Option ((Int × (List Expr_)) ⊕ ((List Expr_) × Int)))) (q,acc)=some (acc++[e],-1):=by
 refine loopM_inr ?_
 simp only [hr,Option.bind_some,appM_ok (show acc.length+[e].length≤2147483648 by simp;omega)]
 rfl
theorem spA_at {list:List Word_} (hlen:list.length≤1000) {q:Int} {acc:List Expr_} (ha:acc.length≤1000) {e:Expr_} {n:Nat} {ws:List Word_} (h:AtW list n ws) (hr:spec_l2Read list q 1=some (e,(n:Int))) :
  loopM (λ(xs1_1:Int × (List Expr_))=>(Option.bind (spec_l2Read list xs1_1.1 1) λr1_1=>Option.bind (appM xs1_1.2 ([r1_1.1]:List Expr_)) λys1_1=>Option.bind (if decide (r1_1.2<0) then some true else Option.bind (spec_l2Is list r1_1.2 (mkS [41])) λr2_1=>some r2_1:Option (Bool)) λs1_1=>if s1_1 then Option.bind (spec_l1Step r1_1.2) λr1_2=>some (.inr (ys1_1,w64 (r1_1.2+r1_2))) else Option.bind (spec_l2Is list r1_1.2 (mkS [44])) λr1_3=>if !(r1_3) then some (.inr (ys1_1,-1)) else some (.inl (w64 (r1_1.2+1),ys1_1)):Option ((Int × (List Expr_)) ⊕ ((List Expr_) × Int)))) (q,acc)=if isT ws (mkS [41]) then some (acc++[e],((n+1:Nat):Int)) else if isT ws (mkS [44]) then loopM (λ(xs1_1:Int × (List Expr_))=>(Option.bind (spec_l2Read list xs1_1.1 1) λr1_1=>Option.bind (appM xs1_1.2 ([r1_1.1]:List Expr_)) λys1_1=>Option.bind (if decide (r1_1.2<0) then some true else Option.bind (spec_l2Is list r1_1.2 (mkS [41])) λr2_1=>some r2_1:Option (Bool)) λs1_1=>if s1_1 then Option.bind (spec_l1Step r1_1.2) λr1_2=>some (.inr (ys1_1,w64 (r1_1.2+r1_2))) else Option.bind (spec_l2Is list r1_1.2 (mkS [44])) λr1_3=>if !(r1_3) then some (.inr (ys1_1,-1)) else some (.inl (w64 (r1_1.2+1),ys1_1)):Option ((Int × (List Expr_)) ⊕ ((List Expr_) × Int)))) (((n+1:Nat):Int),acc++[e]) else some (acc++[e],-1):=by
 have:=h.2
 have e1:decide ((n:Int)<0)=false:=by simp
 have hb:((λ(xs1_1:Int × (List Expr_))=>(Option.bind (spec_l2Read list xs1_1.1 1) λr1_1=>Option.bind (appM xs1_1.2 ([r1_1.1]:List Expr_)) λys1_1=>Option.bind (if decide (r1_1.2<0) then some true else Option.bind (spec_l2Is list r1_1.2 (mkS [41])) λr2_1=>some r2_1:Option (Bool)) λs1_1=>if s1_1 then Option.bind (spec_l1Step r1_1.2) λr1_2=>some (.inr (ys1_1,w64 (r1_1.2+r1_2))) else Option.bind (spec_l2Is list r1_1.2 (mkS [44])) λr1_3=>if !(r1_3) then some (.inr (ys1_1,-1)) else some (.inl (w64 (r1_1.2+1),ys1_1)):Option ((Int × (List Expr_)) ⊕ ((List Expr_) × Int)))):_→_) (q,acc)=if isT ws (mkS [41]) then some (.inr (acc++[e],((n+1:Nat):Int))) else if isT ws (mkS [44]) then some (.inl (((n+1:Nat):Int),acc++[e])) else some (.inr (acc++[e],-1)):=by
  have hs:spec_l1Step (n:Int)=some 1:=by unfold spec_l1Step;rw [e1];rfl
  simp only [hr,Option.bind_some,appM_ok (show acc.length+[e].length≤2147483648 by simp;omega),e1,at_is h,hs,w64_1 (show n≤2000 by omega),Bool.false_eq_true,if_false]
  cases isT ws (mkS [41])<;>cases isT ws (mkS [44])<;>rfl
 cases h1:isT ws (mkS [41]) with
 | true=>rw [h1] at hb;exact loopM_inr hb
 | false =>
  rw [h1] at hb
  cases h2:isT ws (mkS [44]) with
  | true=>rw [h2] at hb;exact loopM_inl hb
  | false=>rw [h2] at hb;exact loopM_inr hb
def SpecJ (list:List Word_):Job→Prop
 | .E lv ws e r=>∀ n,AtW list n ws→∃ m,AtW list m r∧n<m∧spec_l2Read list (n:Int) lv=some (e,((m:Nat):Int))
 | .L lv x ws e r=>(lv=1∨lv=2∨lv=3∨lv=4)→∀ n,AtW list n ws→∃ m,AtW list m r∧n≤m∧loopM (λ(xs2_1:Int × Int × Str × (List Expr_) × Int)=>(Option.bind (if decide (0≤xs2_1.2.2.2.2) then Option.bind (spec_l2Op list xs2_1.2.2.2.2 lv) λr3_1=>some (decide (0<r3_1)) else some false:Option (Bool)) λs2_1=>if s2_1 then Option.bind (spec_l2Op list xs2_1.2.2.2.2 lv) λr2_1=>Option.bind (spec_l2Read list (w64 (xs2_1.2.2.2.2+1)) (w64 (lv+1))) λr2_2=>some (.inl (r2_1,0,(mkS []),([(⟨xs2_1.1,xs2_1.2.1,xs2_1.2.2.1,xs2_1.2.2.2.1⟩:Expr_),r2_2.1]:List Expr_),r2_2.2)) else some (.inr (xs2_1.1,xs2_1.2.1,xs2_1.2.2.1,xs2_1.2.2.2.1,xs2_1.2.2.2.2)):Option ((Int × Int × Str × (List Expr_) × Int) ⊕ (Int × Int × Str × (List Expr_) × Int)))) (x.op,x.n_,x.name,x.kids,(n:Int))=some (e.op,e.n_,e.name,e.kids,((m:Nat):Int))
 | .A ws ks r=>∀ n,AtW list n ws→∃ m,AtW list m r∧n<m∧spec_l2List list (n:Int)=some (ks,((m:Nat):Int))
 | .M acc ws ks r=>∀ n,AtW list n ws→∀ q acc0 e,acc=acc0++[e]→acc.length≤n→spec_l2Read list q 1=some (e,(n:Int))→∃ m,AtW list m r∧n<m∧loopM (λ(xs1_1:Int × (List Expr_))=>(Option.bind (spec_l2Read list xs1_1.1 1) λr1_1=>Option.bind (appM xs1_1.2 ([r1_1.1]:List Expr_)) λys1_1=>Option.bind (if decide (r1_1.2<0) then some true else Option.bind (spec_l2Is list r1_1.2 (mkS [41])) λr2_1=>some r2_1:Option (Bool)) λs1_1=>if s1_1 then Option.bind (spec_l1Step r1_1.2) λr1_2=>some (.inr (ys1_1,w64 (r1_1.2+r1_2))) else Option.bind (spec_l2Is list r1_1.2 (mkS [44])) λr1_3=>if !(r1_3) then some (.inr (ys1_1,-1)) else some (.inl (w64 (r1_1.2+1),ys1_1)):Option ((Int × (List Expr_)) ⊕ ((List Expr_) × Int)))) (q,acc0)=some (ks,((m:Nat):Int))
theorem rd_spec {list:List Word_} (hlen:list.length≤1000) (hv:∀ w∈list,wordB w=true) {j:Job} (h:Rd j):SpecJ list j:=by
 have hin:∀ {n w ws},AtW list n (w::ws)→wordB w=true:=λ{n w ws} ha=>hv w (List.mem_of_mem_drop (by rw [ha.1];simp))
 have hne:∀ {w:Word_} {c:UInt8} {t:Str},wordB w=true→w.kind≠3→t.b=[c]→c∈sgnL→w.text≠t:=λ{w c t} h1 h2 h3 h4 e=>h2 (sign_kind h1 (by rw [e];exact h3) h4)
 induction h<;>simp only [SpecJ] at *
 case neg w ws e r hw h ih =>
  intro n ha
  obtain ⟨h1,h2,h3⟩:=at_cons ha
  obtain ⟨m,g1,g2,g3⟩:=ih (n+1) h3
  rw [read5] at g3
  exact ⟨m,g1,by omega,by rw [read5,tight_cons hlen ha,if_pos hw,g3];rfl⟩
 case at_ w ws e r hw h ih =>
  intro n ha
  obtain ⟨h1,h2,h3⟩:=at_cons ha
  obtain ⟨m,g1,g2,g3⟩:=ih (n+1) h3
  rw [read5] at g3
  exact ⟨m,g1,by omega,by rw [read5,tight_cons hlen ha,if_neg (by rw [hw];decide),if_pos hw,g3];rfl⟩
 case par w ws e v r hw h hv2 ih =>
  intro n ha
  obtain ⟨h1,h2,h3⟩:=at_cons ha
  obtain ⟨m,g1,g2,g3⟩:=ih (n+1) h3
  obtain ⟨k1,k2,k3⟩:=at_cons g1
  refine ⟨m+1,k3,by omega,?_⟩
  have e1:decide ((m:Int)<0)=false:=by simp
  have e2:isT (v::r) (mkS [41])=true:=by simp [isT,hv2]
  rw [read5,tight_cons hlen ha,if_neg (by rw [hw];decide),if_neg (by rw [hw];decide),if_pos hw,g3,Option.bind_some]
  dsimp only
  rw [e1,at_is g1,e2,w64_1 (by omega)]
  rfl
 case num w r hw =>
  intro n ha
  obtain ⟨h1,h2,h3⟩:=at_cons ha
  have hk:w.kind≠3:=by omega
  exact ⟨n+1,h3,by omega,by rw [read5,tight_cons hlen ha,if_neg (hne (hin ha) hk rfl (by decide)),if_neg (hne (hin ha) hk rfl (by decide)),if_neg (hne (hin ha) hk rfl (by decide)),if_pos hw]⟩
 case var w r hw ht =>
  intro n ha
  obtain ⟨h1,h2,h3⟩:=at_cons ha
  have hk:w.kind≠3:=by omega
  exact ⟨n+1,h3,by omega,by rw [read5,tight_cons hlen ha,if_neg (hne (hin ha) hk rfl (by decide)),if_neg (hne (hin ha) hk rfl (by decide)),if_neg (hne (hin ha) hk rfl (by decide)),if_neg (by omega),if_neg (by omega),if_pos ht]⟩
 case call w v ws ks r hw ht h ih =>
  intro n ha
  obtain ⟨h1,h2,h3⟩:=at_cons ha
  obtain ⟨k1,k2,k3⟩:=at_cons h3
  obtain ⟨m,g1,g2,g3⟩:=ih (n+2) k3
  have hk:w.kind≠3:=by omega
  exact ⟨m,g1,by omega,by rw [read5,tight_cons hlen ha,if_neg (hne (hin ha) hk rfl (by decide)),if_neg (hne (hin ha) hk rfl (by decide)),if_neg (hne (hin ha) hk rfl (by decide)),if_neg (by omega),if_neg (by omega),if_neg (by simp [isT,ht]),g3];rfl⟩
 case up lv ws e ws' e' r hl h1 h2 ih1 ih2 =>
  intro n ha
  obtain ⟨m,g1,g2,g3⟩:=ih1 n ha
  obtain ⟨k,k1,k2,k3⟩:=ih2 hl m g1
  exact ⟨k,k1,by omega,by rw [read_lv hl,g3,Option.bind_some,k3,Option.bind_some];dsimp only;rw [mk_eta]⟩
 case stop lv e ws ho =>
  intro hl n ha
  exact ⟨n,ha,Nat.le_refl _,spL_stop ha hl ho⟩
 case step lv e w ws f ws' e' r ho h1 h2 ih1 ih2 =>
  intro hl n ha
  obtain ⟨_,_,h3⟩:=at_cons ha
  obtain ⟨m,g1,g2,g3⟩:=ih1 (n+1) h3
  obtain ⟨k,k1,k2,k3⟩:=ih2 hl m g1
  exact ⟨k,k1,by omega,by rw [spL_step hlen ha hl ho g3,mk_eta];exact k3⟩
 case done v r hv2 =>
  intro n ha
  obtain ⟨_,_,h3⟩:=at_cons ha
  exact ⟨n+1,h3,by omega,by rw [list_eq hlen ha,if_pos (by simp [isT,hv2])]⟩
 case first ws e ws' ks r ht h1 h2 ih1 ih2 =>
  intro n ha
  obtain ⟨m,g1,g2,g3⟩:=ih1 n ha
  obtain ⟨k,k1,k2,k3⟩:=ih2 m g1 n [] e rfl (by simp;omega) g3
  exact ⟨k,k1,by omega,by rw [list_eq hlen ha,ht];exact k3⟩
 case last acc v r hv2 =>
  intro n ha q acc0 e he hle hr
  obtain ⟨h1,_,h3⟩:=at_cons ha
  refine ⟨n+1,h3,by omega,?_⟩
  rw [he] at hle ⊢
  simp at hle
  rw [spA_at hlen (by omega) ha hr,if_pos (by simp [isT,hv2])]
 case more acc v ws e ws' ks r hv2 h1 h2 ih1 ih2 =>
  intro n ha q acc0 e0 he hle hr
  obtain ⟨h1,_,h3⟩:=at_cons ha
  obtain ⟨m,g1,g2,g3⟩:=ih1 (n+1) h3
  obtain ⟨k,k1,k2,k3⟩:=ih2 m g1 ((n+1:Nat):Int) acc e rfl (by simp;omega) g3
  refine ⟨k,k1,by omega,?_⟩
  have hle2:=hle
  rw [he] at hle2
  simp at hle2
  rw [spA_at hlen (by omega) ha hr,if_neg (by simp [isT,hv2];try decide),if_pos (by simp [isT,hv2]),← he]
  exact k3
end Prg
end Go.Wk
namespace Go.Wk
open Go
namespace Prg
set_option maxRecDepth 10000
def vW (ws:List Word_):Prop:=∀ w∈ws,wordB w=true
theorem vW_tail {w:Word_} {ws:List Word_} (h:vW (w::ws)):vW ws:=λx hx=>h x (by simp [hx])
theorem vW_head {w:Word_} {ws:List Word_} (h:vW (w::ws)):wordB w=true:=h w (by simp)
def isS (w:Word_) (t:Str):Bool:=decide (w.kind=3)&&decide (w.text=t)
theorem isS_eq {w:Word_} (h:wordB w=true) {t:Str} {c:UInt8} (ht:t.b=[c]) (hc:c∈sgnL):(decide (w.kind=3)&&decide (w.text=t))=decide (w.text=t):=by
 by_cases h2:w.text=t
 ·have := sign_kind h (by rw [h2]; exact ht) hc
  simp [h2,this]
 ·simp [h2]
theorem expr5 (r:wordReader):pimpl_wordReader__expr r 5=pimpl_wordReader__single r:=by
 rw [pimpl_wordReader__expr,if_pos (by decide)]
 cases pimpl_wordReader__single r<;>rfl
theorem expr_inl {r:wordReader} {lv:Int} (hl:lv=1∨lv=2∨lv=3∨lv=4) {x:Expr_} {ws:List Word_} {b:Bool} {y:Expr_ × wordReader} (h1:pimpl_wordReader__expr r (lv+1)=some (x,⟨ws,b⟩))
  (h2:loopM (λ(xs2_1:(List Word_) × Bool × Int × Int × Str × (List Expr_))=>(if !(xs2_1.2.1) then Option.bind (Option.bind (rangeP (λ(p4_1:Int × St_sign_level) (xs4_1:Int)=>Option.bind (Option.bind (if decide (p4_1.2.level=lv) then Option.bind (pimpl_wordReader__peek (⟨xs2_1.1,xs2_1.2.1⟩:wordReader)) λr6_1=>Option.bind (impl_signWord p4_1.2.sign) λr6_2=>some (decide (r6_1.kind=r6_2.kind)&&decide (r6_1.text=r6_2.text)) else some false:Option (Bool)) λs5_1=>Option.bind (if s5_1 then some p4_1.1 else some xs4_1:Option (Int)) λs5_2=>some s5_2:Option (Int)) λs4_2=>some s4_2) (glob_impl_opSign:MapS St_sign_level).es 0) (λxs3_1=>some xs3_1):Option (Int)) λs2_1=>if decide (s2_1=0) then some (.inr (.inl ((⟨xs2_1.2.2.1,xs2_1.2.2.2.1,xs2_1.2.2.2.2.1,xs2_1.2.2.2.2.2⟩:Expr_),(⟨xs2_1.1,xs2_1.2.1⟩:wordReader)))) else Option.bind (pimpl_wordReader__next (⟨xs2_1.1,xs2_1.2.1⟩:wordReader)) λr2_1=>Option.bind (Option.bind (pimpl_wordReader__expr r2_1.2 (w64 (lv+1))) λpb3_1=>some (pb3_1.2.list,pb3_1.2.bad,([(⟨xs2_1.2.2.1,xs2_1.2.2.2.1,xs2_1.2.2.2.2.1,xs2_1.2.2.2.2.2⟩:Expr_),pb3_1.1]:List Expr_)):Option ((List Word_) × Bool × (List Expr_))) λs2_2=>some (.inl (s2_2.1,s2_2.2.1,s2_1,0,(mkS []),s2_2.2.2)) else some (.inr (.inr (xs2_1.2.2.1,xs2_1.2.2.2.1,xs2_1.2.2.2.2.1,xs2_1.2.2.2.2.2,xs2_1.1,xs2_1.2.1))):Option (((List Word_) × Bool × Int × Int × Str × (List Expr_)) ⊕ ((Expr_ × wordReader) ⊕ (Int × Int × Str × (List Expr_) × (List Word_) × Bool))))) (ws,b,x.op,x.n_,x.name,x.kids)=some (.inl y)):pimpl_wordReader__expr r lv=some y:=by
 have e:w64 (lv+1)=lv+1:=w64_id (by omega) (by omega)
 have e2:decide (lv=5)=false:=by simp;omega
 rw [e] at h2
 rw [pimpl_wordReader__expr,e2]
 simp only [Bool.false_eq_true,if_false,e,h1,Option.bind_some,h2]
 rfl
theorem expr_inr {r:wordReader} {lv:Int} (hl:lv=1∨lv=2∨lv=3∨lv=4) {x:Expr_} {ws ws':List Word_} {b b':Bool} {op n_:Int} {nm:Str} {ks:List Expr_} (h1:pimpl_wordReader__expr r (lv+1)=some (x,⟨ws,b⟩))
  (h2:loopM (λ(xs2_1:(List Word_) × Bool × Int × Int × Str × (List Expr_))=>(if !(xs2_1.2.1) then Option.bind (Option.bind (rangeP (λ(p4_1:Int × St_sign_level) (xs4_1:Int)=>Option.bind (Option.bind (if decide (p4_1.2.level=lv) then Option.bind (pimpl_wordReader__peek (⟨xs2_1.1,xs2_1.2.1⟩:wordReader)) λr6_1=>Option.bind (impl_signWord p4_1.2.sign) λr6_2=>some (decide (r6_1.kind=r6_2.kind)&&decide (r6_1.text=r6_2.text)) else some false:Option (Bool)) λs5_1=>Option.bind (if s5_1 then some p4_1.1 else some xs4_1:Option (Int)) λs5_2=>some s5_2:Option (Int)) λs4_2=>some s4_2) (glob_impl_opSign:MapS St_sign_level).es 0) (λxs3_1=>some xs3_1):Option (Int)) λs2_1=>if decide (s2_1=0) then some (.inr (.inl ((⟨xs2_1.2.2.1,xs2_1.2.2.2.1,xs2_1.2.2.2.2.1,xs2_1.2.2.2.2.2⟩:Expr_),(⟨xs2_1.1,xs2_1.2.1⟩:wordReader)))) else Option.bind (pimpl_wordReader__next (⟨xs2_1.1,xs2_1.2.1⟩:wordReader)) λr2_1=>Option.bind (Option.bind (pimpl_wordReader__expr r2_1.2 (w64 (lv+1))) λpb3_1=>some (pb3_1.2.list,pb3_1.2.bad,([(⟨xs2_1.2.2.1,xs2_1.2.2.2.1,xs2_1.2.2.2.2.1,xs2_1.2.2.2.2.2⟩:Expr_),pb3_1.1]:List Expr_)):Option ((List Word_) × Bool × (List Expr_))) λs2_2=>some (.inl (s2_2.1,s2_2.2.1,s2_1,0,(mkS []),s2_2.2.2)) else some (.inr (.inr (xs2_1.2.2.1,xs2_1.2.2.2.1,xs2_1.2.2.2.2.1,xs2_1.2.2.2.2.2,xs2_1.1,xs2_1.2.1))):Option (((List Word_) × Bool × Int × Int × Str × (List Expr_)) ⊕ ((Expr_ × wordReader) ⊕ (Int × Int × Str × (List Expr_) × (List Word_) × Bool))))) (ws,b,x.op,x.n_,x.name,x.kids)=some (.inr (op,n_,nm,ks,ws',b'))):pimpl_wordReader__expr r lv=some (⟨op,n_,nm,ks⟩,⟨ws',b'⟩):=by
 have e:w64 (lv+1)=lv+1:=w64_id (by omega) (by omega)
 have e2:decide (lv=5)=false:=by simp;omega
 rw [e] at h2
 rw [pimpl_wordReader__expr,e2]
 simp only [Bool.false_eq_true,if_false,e,h1,Option.bind_some,h2]
 rfl
theorem imL_bad {lv:Int} {ws:List Word_} {op n_:Int} {nm:Str} {ks:List Expr_}:loopM (λ(xs2_1:(List Word_) × Bool × Int × Int × Str × (List Expr_))=>(if !(xs2_1.2.1) then Option.bind (Option.bind (rangeP (λ(p4_1:Int × St_sign_level) (xs4_1:Int)=>Option.bind (Option.bind (if decide (p4_1.2.level=lv) then Option.bind (pimpl_wordReader__peek (⟨xs2_1.1,xs2_1.2.1⟩:wordReader)) λr6_1=>Option.bind (impl_signWord p4_1.2.sign) λr6_2=>some (decide (r6_1.kind=r6_2.kind)&&decide (r6_1.text=r6_2.text)) else some false:Option (Bool)) λs5_1=>Option.bind (if s5_1 then some p4_1.1 else some xs4_1:Option (Int)) λs5_2=>some s5_2:Option (Int)) λs4_2=>some s4_2) (glob_impl_opSign:MapS St_sign_level).es 0) (λxs3_1=>some xs3_1):Option (Int)) λs2_1=>if decide (s2_1=0) then some (.inr (.inl ((⟨xs2_1.2.2.1,xs2_1.2.2.2.1,xs2_1.2.2.2.2.1,xs2_1.2.2.2.2.2⟩:Expr_),(⟨xs2_1.1,xs2_1.2.1⟩:wordReader)))) else Option.bind (pimpl_wordReader__next (⟨xs2_1.1,xs2_1.2.1⟩:wordReader)) λr2_1=>Option.bind (Option.bind (pimpl_wordReader__expr r2_1.2 (w64 (lv+1))) λpb3_1=>some (pb3_1.2.list,pb3_1.2.bad,([(⟨xs2_1.2.2.1,xs2_1.2.2.2.1,xs2_1.2.2.2.2.1,xs2_1.2.2.2.2.2⟩:Expr_),pb3_1.1]:List Expr_)):Option ((List Word_) × Bool × (List Expr_))) λs2_2=>some (.inl (s2_2.1,s2_2.2.1,s2_1,0,(mkS []),s2_2.2.2)) else some (.inr (.inr (xs2_1.2.2.1,xs2_1.2.2.2.1,xs2_1.2.2.2.2.1,xs2_1.2.2.2.2.2,xs2_1.1,xs2_1.2.1))):Option (((List Word_) × Bool × Int × Int × Str × (List Expr_)) ⊕ ((Expr_ × wordReader) ⊕ (Int × Int × Str × (List Expr_) × (List Word_) × Bool))))) (ws,true,op,n_,nm,ks)=some (.inr (op,n_,nm,ks,ws,true)):=loopM_inr rfl
theorem imL_stop {lv:Int} (hl:lv=1∨lv=2∨lv=3∨lv=4) {ws:List Word_} (hw:vW ws) (ho:opT lv ws=0) {op n_:Int} {nm:Str} {ks:List Expr_} :
  loopM (λ(xs2_1:(List Word_) × Bool × Int × Int × Str × (List Expr_))=>(if !(xs2_1.2.1) then Option.bind (Option.bind (rangeP (λ(p4_1:Int × St_sign_level) (xs4_1:Int)=>Option.bind (Option.bind (if decide (p4_1.2.level=lv) then Option.bind (pimpl_wordReader__peek (⟨xs2_1.1,xs2_1.2.1⟩:wordReader)) λr6_1=>Option.bind (impl_signWord p4_1.2.sign) λr6_2=>some (decide (r6_1.kind=r6_2.kind)&&decide (r6_1.text=r6_2.text)) else some false:Option (Bool)) λs5_1=>Option.bind (if s5_1 then some p4_1.1 else some xs4_1:Option (Int)) λs5_2=>some s5_2:Option (Int)) λs4_2=>some s4_2) (glob_impl_opSign:MapS St_sign_level).es 0) (λxs3_1=>some xs3_1):Option (Int)) λs2_1=>if decide (s2_1=0) then some (.inr (.inl ((⟨xs2_1.2.2.1,xs2_1.2.2.2.1,xs2_1.2.2.2.2.1,xs2_1.2.2.2.2.2⟩:Expr_),(⟨xs2_1.1,xs2_1.2.1⟩:wordReader)))) else Option.bind (pimpl_wordReader__next (⟨xs2_1.1,xs2_1.2.1⟩:wordReader)) λr2_1=>Option.bind (Option.bind (pimpl_wordReader__expr r2_1.2 (w64 (lv+1))) λpb3_1=>some (pb3_1.2.list,pb3_1.2.bad,([(⟨xs2_1.2.2.1,xs2_1.2.2.2.1,xs2_1.2.2.2.2.1,xs2_1.2.2.2.2.2⟩:Expr_),pb3_1.1]:List Expr_)):Option ((List Word_) × Bool × (List Expr_))) λs2_2=>some (.inl (s2_2.1,s2_2.2.1,s2_1,0,(mkS []),s2_2.2.2)) else some (.inr (.inr (xs2_1.2.2.1,xs2_1.2.2.2.1,xs2_1.2.2.2.2.1,xs2_1.2.2.2.2.2,xs2_1.1,xs2_1.2.1))):Option (((List Word_) × Bool × Int × Int × Str × (List Expr_)) ⊕ ((Expr_ × wordReader) ⊕ (Int × Int × Str × (List Expr_) × (List Word_) × Bool))))) (ws,false,op,n_,nm,ks)=some (.inl (⟨op,n_,nm,ks⟩,⟨ws,false⟩)):=by
 refine loopM_inr ?_
 dsimp only
 rw [if_pos (show (!false)=true from rfl)]
 refine bindt (bindt (opI_ok ws hw lv hl λp s=>?_) rfl) ?_
 ·simp only [peek_ok,impl_signWord,Option.bind_some]
  unfold qE
  by_cases c1:p.2.level=lv<;>by_cases c2:(pkW ws).kind=3<;>by_cases c3:(pkW ws).text=p.2.sign<;>simp [c1,c2,c3]
 ·rw [ho];rfl
theorem imL_step {lv:Int} (hl:lv=1∨lv=2∨lv=3∨lv=4) {w:Word_} {ws:List Word_} (hw:vW (w::ws)) (ho:opW lv w≠0) {op n_:Int} {nm:Str} {ks:List Expr_} {f:Expr_} {ws':List Word_} {b:Bool}
  (hr:pimpl_wordReader__expr ⟨ws,false⟩ (lv+1)=some (f,⟨ws',b⟩)) :
  loopM (λ(xs2_1:(List Word_) × Bool × Int × Int × Str × (List Expr_))=>(if !(xs2_1.2.1) then Option.bind (Option.bind (rangeP (λ(p4_1:Int × St_sign_level) (xs4_1:Int)=>Option.bind (Option.bind (if decide (p4_1.2.level=lv) then Option.bind (pimpl_wordReader__peek (⟨xs2_1.1,xs2_1.2.1⟩:wordReader)) λr6_1=>Option.bind (impl_signWord p4_1.2.sign) λr6_2=>some (decide (r6_1.kind=r6_2.kind)&&decide (r6_1.text=r6_2.text)) else some false:Option (Bool)) λs5_1=>Option.bind (if s5_1 then some p4_1.1 else some xs4_1:Option (Int)) λs5_2=>some s5_2:Option (Int)) λs4_2=>some s4_2) (glob_impl_opSign:MapS St_sign_level).es 0) (λxs3_1=>some xs3_1):Option (Int)) λs2_1=>if decide (s2_1=0) then some (.inr (.inl ((⟨xs2_1.2.2.1,xs2_1.2.2.2.1,xs2_1.2.2.2.2.1,xs2_1.2.2.2.2.2⟩:Expr_),(⟨xs2_1.1,xs2_1.2.1⟩:wordReader)))) else Option.bind (pimpl_wordReader__next (⟨xs2_1.1,xs2_1.2.1⟩:wordReader)) λr2_1=>Option.bind (Option.bind (pimpl_wordReader__expr r2_1.2 (w64 (lv+1))) λpb3_1=>some (pb3_1.2.list,pb3_1.2.bad,([(⟨xs2_1.2.2.1,xs2_1.2.2.2.1,xs2_1.2.2.2.2.1,xs2_1.2.2.2.2.2⟩:Expr_),pb3_1.1]:List Expr_)):Option ((List Word_) × Bool × (List Expr_))) λs2_2=>some (.inl (s2_2.1,s2_2.2.1,s2_1,0,(mkS []),s2_2.2.2)) else some (.inr (.inr (xs2_1.2.2.1,xs2_1.2.2.2.1,xs2_1.2.2.2.2.1,xs2_1.2.2.2.2.2,xs2_1.1,xs2_1.2.1))):Option (((List Word_) × Bool × Int × Int × Str × (List Expr_)) ⊕ ((Expr_ × wordReader) ⊕ (Int × Int × Str × (List Expr_) × (List Word_) × Bool))))) (w::ws,false,op,n_,nm,ks)=loopM (λ(xs2_1:(List Word_) × Bool × Int × Int × Str × (List Expr_))=>(if !(xs2_1.2.1) then Option.bind (Option.bind (rangeP (λ(p4_1:Int × St_sign_level) (xs4_1:Int)=>Option.bind (Option.bind (if decide (p4_1.2.level=lv) then Option.bind (pimpl_wordReader__peek (⟨xs2_1.1,xs2_1.2.1⟩:wordReader)) λr6_1=>Option.bind (impl_signWord p4_1.2.sign) λr6_2=>some (decide (r6_1.kind=r6_2.kind)&&decide (r6_1.text=r6_2.text)) else some false:Option (Bool)) λs5_1=>Option.bind (if s5_1 then some p4_1.1 else some xs4_1:Option (Int)) λs5_2=>some s5_2:Option (Int)) λs4_2=>some s4_2) (glob_impl_opSign:MapS St_sign_level).es 0) (λxs3_1=>some xs3_1):Option (Int)) λs2_1=>if decide (s2_1=0) then some (.inr (.inl ((⟨xs2_1.2.2.1,xs2_1.2.2.2.1,xs2_1.2.2.2.2.1,xs2_1.2.2.2.2.2⟩:Expr_),(⟨xs2_1.1,xs2_1.2.1⟩:wordReader)))) else Option.bind (pimpl_wordReader__next (⟨xs2_1.1,xs2_1.2.1⟩:wordReader)) λr2_1=>Option.bind (Option.bind (pimpl_wordReader__expr r2_1.2 (w64 (lv+1))) λpb3_1=>some (pb3_1.2.list,pb3_1.2.bad,([(⟨xs2_1.2.2.1,xs2_1.2.2.2.1,xs2_1.2.2.2.2.1,xs2_1.2.2.2.2.2⟩:Expr_),pb3_1.1]:List Expr_)):Option ((List Word_) × Bool × (List Expr_))) λs2_2=>some (.inl (s2_2.1,s2_2.2.1,s2_1,0,(mkS []),s2_2.2.2)) else some (.inr (.inr (xs2_1.2.2.1,xs2_1.2.2.2.1,xs2_1.2.2.2.2.1,xs2_1.2.2.2.2.2,xs2_1.1,xs2_1.2.1))):Option (((List Word_) × Bool × Int × Int × Str × (List Expr_)) ⊕ ((Expr_ × wordReader) ⊕ (Int × Int × Str × (List Expr_) × (List Word_) × Bool))))) (ws',b,opW lv w,0,mkS [],[⟨op,n_,nm,ks⟩,f]):=by
 refine loopM_inl ?_
 dsimp only
 rw [if_pos (show (!false)=true from rfl)]
 refine bindt (bindt (opI_ok (w::ws) hw lv hl λp s=>?_) rfl) ?_
 ·simp only [peek_ok,impl_signWord,Option.bind_some]
  unfold qE
  by_cases c1:p.2.level=lv<;>by_cases c2:(pkW (w::ws)).kind=3<;>by_cases c3:(pkW (w::ws)).text=p.2.sign<;>simp [c1,c2,c3]
 ·have e2:decide (opT lv (w::ws)=0)=false:=decide_eq_false ho
  have e:w64 (lv+1)=lv+1:=w64_id (by omega) (by omega)
  rw [e2,next_cons,e,Option.bind_some,hr]
  rfl
theorem single_nil:pimpl_wordReader__single ⟨[],false⟩=some (⟨0,0,mkS [],[]⟩,⟨[],true⟩):=by
 rw [pimpl_wordReader__single,next_nil];rfl
theorem single_bad (ws:List Word_):∃ ws',pimpl_wordReader__single ⟨ws,true⟩=some (⟨0,0,mkS [],[]⟩,⟨ws',true⟩):=by
 cases ws with
 | nil=>exact ⟨[],by rw [pimpl_wordReader__single,next_nil];rfl⟩
 | cons w ws=>exact ⟨ws,by rw [pimpl_wordReader__single,next_cons];rfl⟩
theorem single_cons {w:Word_} {ws:List Word_} (hw:vW (w::ws)):pimpl_wordReader__single ⟨w::ws,false⟩ =
  if w.text=mkS [33] then Option.bind (pimpl_wordReader__single ⟨ws,false⟩) λr=>some (⟨11,0,mkS [],[r.1]⟩,r.2)
  else if w.text=mkS [64] then Option.bind (pimpl_wordReader__single ⟨ws,false⟩) λr=>some (⟨12,0,mkS [],[r.1]⟩,r.2)
  else if w.text=mkS [40] then Option.bind (pimpl_wordReader__expr ⟨ws,false⟩ 1) λr=>Option.bind (pimpl_wordReader__want r.2 3 (mkS [41])) λq=>some (r.1,q)
  else if w.kind=2 then some (⟨1,numW w,mkS [],[]⟩,⟨ws,false⟩)
  else if w.kind≠1 then some (⟨0,0,mkS [],[]⟩,⟨ws,true⟩)
  else if isT ws (mkS [40])=false then some (⟨2,0,w.text,[]⟩,⟨ws,false⟩)
  else Option.bind (loopM (λ(xs2_1:(List Word_) × Bool × (List Expr_))=>(Option.bind (if !(xs2_1.2.1) then Option.bind (pimpl_wordReader__take (⟨xs2_1.1,xs2_1.2.1⟩:wordReader) 3 (mkS [41])) λr3_1=>some (r3_1.2.list,r3_1.2.bad,!(r3_1.1)) else some (xs2_1.1,xs2_1.2.1,false):Option ((List Word_) × Bool × Bool)) λs2_1=>if s2_1.2.2 then Option.bind (if decide (0<((xs2_1.2.2.length:Int))) then Option.bind (pimpl_wordReader__want (⟨s2_1.1,s2_1.2.1⟩:wordReader) 3 (mkS [44])) λr3_2=>some (r3_2.list,r3_2.bad) else some (s2_1.1,s2_1.2.1):Option ((List Word_) × Bool)) λs2_2=>Option.bind (pimpl_wordReader__expr (⟨s2_2.1,s2_2.2⟩:wordReader) 1) λr2_1=>Option.bind (appM xs2_1.2.2 ([r2_1.1]:List Expr_)) λys2_1=>some (.inl (r2_1.2.list,r2_1.2.bad,ys2_1)) else some (.inr (xs2_1.2.2,s2_1.1,s2_1.2.1)):Option (((List Word_) × Bool × (List Expr_)) ⊕ ((List Expr_) × (List Word_) × Bool)))) (ws.tail,false,[])) λs=>some (⟨13,0,w.text,s.1⟩,⟨s.2.1,s.2.2⟩):=by
 have h0:=vW_head hw
 have a1:=isS_eq h0 (t:=mkS [33]) rfl (by decide)
 have a2:=isS_eq h0 (t:=mkS [64]) rfl (by decide)
 have a3:=isS_eq h0 (t:=mkS [40]) rfl (by decide)
 rw [pimpl_wordReader__single,next_cons]
 simp only [Option.bind_some,Bool.false_eq_true,if_false,impl_signWord,a1,a2,a3,number_ok,take_ok,tk_is (vW_tail hw) (t:=mkS [40]) rfl (by decide),bindS,decide_eq_true_eq]
 by_cases c1:w.text=mkS [33]
 ·simp only [c1,if_true]
 by_cases c2:w.text=mkS [64]
 ·simp only [c1,c2,if_true,if_false]
 by_cases c3:w.text=mkS [40]
 ·simp only [c1,c2,c3,if_true,if_false]
 by_cases c4:w.kind=2
 ·simp only [c1,c2,c3,c4,if_true,if_false]
 by_cases c5:w.kind=1
 ·cases c6:isT ws (mkS [40])<;>simp [c1,c2,c3,c5]
 ·simp [c1,c2,c3,c4,c5]
theorem expr_bad (lv:Int) (hl:lv=1∨lv=2∨lv=3∨lv=4∨lv=5) (ws:List Word_):∃ e ws',pimpl_wordReader__expr ⟨ws,true⟩ lv=some (e,⟨ws',true⟩):=by
 have h5:∃ e ws',pimpl_wordReader__expr ⟨ws,true⟩ 5=some (e,⟨ws',true⟩):=by
  obtain ⟨ws',h⟩:=single_bad ws
  exact ⟨_,ws',by rw [expr5];exact h⟩
 have hs:∀ lv:Int,(lv=1∨lv=2∨lv=3∨lv=4)→(∃ e ws',pimpl_wordReader__expr ⟨ws,true⟩ (lv+1)=some (e,⟨ws',true⟩))→∃ e ws',pimpl_wordReader__expr ⟨ws,true⟩ lv=some (e,⟨ws',true⟩):=by
  rintro lv hl ⟨e,ws',h⟩
  exact ⟨_,_,expr_inr hl h imL_bad⟩
 have h4:=hs 4 (by omega) h5
 have h3:=hs 3 (by omega) h4
 have h2:=hs 2 (by omega) h3
 have h1:=hs 1 (by omega) h2
 rcases hl with rfl | rfl | rfl | rfl | rfl<;>assumption
theorem imA_bad {ws:List Word_} {ks:List Expr_}:loopM (λ(xs2_1:(List Word_) × Bool × (List Expr_))=>(Option.bind (if !(xs2_1.2.1) then Option.bind (pimpl_wordReader__take (⟨xs2_1.1,xs2_1.2.1⟩:wordReader) 3 (mkS [41])) λr3_1=>some (r3_1.2.list,r3_1.2.bad,!(r3_1.1)) else some (xs2_1.1,xs2_1.2.1,false):Option ((List Word_) × Bool × Bool)) λs2_1=>if s2_1.2.2 then Option.bind (if decide (0<((xs2_1.2.2.length:Int))) then Option.bind (pimpl_wordReader__want (⟨s2_1.1,s2_1.2.1⟩:wordReader) 3 (mkS [44])) λr3_2=>some (r3_2.list,r3_2.bad) else some (s2_1.1,s2_1.2.1):Option ((List Word_) × Bool)) λs2_2=>Option.bind (pimpl_wordReader__expr (⟨s2_2.1,s2_2.2⟩:wordReader) 1) λr2_1=>Option.bind (appM xs2_1.2.2 ([r2_1.1]:List Expr_)) λys2_1=>some (.inl (r2_1.2.list,r2_1.2.bad,ys2_1)) else some (.inr (xs2_1.2.2,s2_1.1,s2_1.2.1)):Option (((List Word_) × Bool × (List Expr_)) ⊕ ((List Expr_) × (List Word_) × Bool)))) (ws,true,ks)=some (ks,ws,true):=loopM_inr rfl
theorem imA_end {v:Word_} {ws:List Word_} (hw:vW (v::ws)) (hv:v.text=mkS [41]) {ks:List Expr_}:loopM (λ(xs2_1:(List Word_) × Bool × (List Expr_))=>(Option.bind (if !(xs2_1.2.1) then Option.bind (pimpl_wordReader__take (⟨xs2_1.1,xs2_1.2.1⟩:wordReader) 3 (mkS [41])) λr3_1=>some (r3_1.2.list,r3_1.2.bad,!(r3_1.1)) else some (xs2_1.1,xs2_1.2.1,false):Option ((List Word_) × Bool × Bool)) λs2_1=>if s2_1.2.2 then Option.bind (if decide (0<((xs2_1.2.2.length:Int))) then Option.bind (pimpl_wordReader__want (⟨s2_1.1,s2_1.2.1⟩:wordReader) 3 (mkS [44])) λr3_2=>some (r3_2.list,r3_2.bad) else some (s2_1.1,s2_1.2.1):Option ((List Word_) × Bool)) λs2_2=>Option.bind (pimpl_wordReader__expr (⟨s2_2.1,s2_2.2⟩:wordReader) 1) λr2_1=>Option.bind (appM xs2_1.2.2 ([r2_1.1]:List Expr_)) λys2_1=>some (.inl (r2_1.2.list,r2_1.2.bad,ys2_1)) else some (.inr (xs2_1.2.2,s2_1.1,s2_1.2.1)):Option (((List Word_) × Bool × (List Expr_)) ⊕ ((List Expr_) × (List Word_) × Bool)))) (v::ws,false,ks)=some (ks,ws,false):=by
 refine loopM_inr ?_
 have e:isT (v::ws) (mkS [41])=true:=by simp [isT,hv]
 simp only [take_ok,tk_is hw (t:=mkS [41]) rfl (by decide),e]
 rfl
theorem imA_first {ws:List Word_} (hw:vW ws) (ht:isT ws (mkS [41])=false) {e:Expr_} {ws':List Word_} {b:Bool} (hr:pimpl_wordReader__expr ⟨ws,false⟩ 1=some (e,⟨ws',b⟩)) :
  loopM (λ(xs2_1:(List Word_) × Bool × (List Expr_))=>(Option.bind (if !(xs2_1.2.1) then Option.bind (pimpl_wordReader__take (⟨xs2_1.1,xs2_1.2.1⟩:wordReader) 3 (mkS [41])) λr3_1=>some (r3_1.2.list,r3_1.2.bad,!(r3_1.1)) else some (xs2_1.1,xs2_1.2.1,false):Option ((List Word_) × Bool × Bool)) λs2_1=>if s2_1.2.2 then Option.bind (if decide (0<((xs2_1.2.2.length:Int))) then Option.bind (pimpl_wordReader__want (⟨s2_1.1,s2_1.2.1⟩:wordReader) 3 (mkS [44])) λr3_2=>some (r3_2.list,r3_2.bad) else some (s2_1.1,s2_1.2.1):Option ((List Word_) × Bool)) λs2_2=>Option.bind (pimpl_wordReader__expr (⟨s2_2.1,s2_2.2⟩:wordReader) 1) λr2_1=>Option.bind (appM xs2_1.2.2 ([r2_1.1]:List Expr_)) λys2_1=>some (.inl (r2_1.2.list,r2_1.2.bad,ys2_1)) else some (.inr (xs2_1.2.2,s2_1.1,s2_1.2.1)):Option (((List Word_) × Bool × (List Expr_)) ⊕ ((List Expr_) × (List Word_) × Bool)))) (ws,false,[])=loopM (λ(xs2_1:(List Word_) × Bool × (List Expr_))=>(Option.bind (if !(xs2_1.2.1) then Option.bind (pimpl_wordReader__take (⟨xs2_1.1,xs2_1.2.1⟩:wordReader) 3 (mkS [41])) λr3_1=>some (r3_1.2.list,r3_1.2.bad,!(r3_1.1)) else some (xs2_1.1,xs2_1.2.1,false):Option ((List Word_) × Bool × Bool)) λs2_1=>if s2_1.2.2 then Option.bind (if decide (0<((xs2_1.2.2.length:Int))) then Option.bind (pimpl_wordReader__want (⟨s2_1.1,s2_1.2.1⟩:wordReader) 3 (mkS [44])) λr3_2=>some (r3_2.list,r3_2.bad) else some (s2_1.1,s2_1.2.1):Option ((List Word_) × Bool)) λs2_2=>Option.bind (pimpl_wordReader__expr (⟨s2_2.1,s2_2.2⟩:wordReader) 1) λr2_1=>Option.bind (appM xs2_1.2.2 ([r2_1.1]:List Expr_)) λys2_1=>some (.inl (r2_1.2.list,r2_1.2.bad,ys2_1)) else some (.inr (xs2_1.2.2,s2_1.1,s2_1.2.1)):Option (((List Word_) × Bool × (List Expr_)) ⊕ ((List Expr_) × (List Word_) × Bool)))) (ws',b,[e]):=by
 refine loopM_inl ?_
 simp only [take_ok,tk_is hw (t:=mkS [41]) rfl (by decide),ht]
 have e0:decide (0<(([]:List Expr_).length:Int))=false:=rfl
 simp only [Bool.not_false,if_true,Option.bind_some,e0,Bool.false_eq_true,if_false,hr]
 rfl
theorem imA_more {acc:List Expr_} (h0:acc≠[]) (hal:acc.length≤1000) {v:Word_} {ws:List Word_} (hw:vW (v::ws)) (hv:v.text=mkS [44]) {e:Expr_} {ws':List Word_} {b:Bool} (hr:pimpl_wordReader__expr ⟨ws,false⟩ 1=some (e,⟨ws',b⟩)) :
  loopM (λ(xs2_1:(List Word_) × Bool × (List Expr_))=>(Option.bind (if !(xs2_1.2.1) then Option.bind (pimpl_wordReader__take (⟨xs2_1.1,xs2_1.2.1⟩:wordReader) 3 (mkS [41])) λr3_1=>some (r3_1.2.list,r3_1.2.bad,!(r3_1.1)) else some (xs2_1.1,xs2_1.2.1,false):Option ((List Word_) × Bool × Bool)) λs2_1=>if s2_1.2.2 then Option.bind (if decide (0<((xs2_1.2.2.length:Int))) then Option.bind (pimpl_wordReader__want (⟨s2_1.1,s2_1.2.1⟩:wordReader) 3 (mkS [44])) λr3_2=>some (r3_2.list,r3_2.bad) else some (s2_1.1,s2_1.2.1):Option ((List Word_) × Bool)) λs2_2=>Option.bind (pimpl_wordReader__expr (⟨s2_2.1,s2_2.2⟩:wordReader) 1) λr2_1=>Option.bind (appM xs2_1.2.2 ([r2_1.1]:List Expr_)) λys2_1=>some (.inl (r2_1.2.list,r2_1.2.bad,ys2_1)) else some (.inr (xs2_1.2.2,s2_1.1,s2_1.2.1)):Option (((List Word_) × Bool × (List Expr_)) ⊕ ((List Expr_) × (List Word_) × Bool)))) (v::ws,false,acc)=loopM (λ(xs2_1:(List Word_) × Bool × (List Expr_))=>(Option.bind (if !(xs2_1.2.1) then Option.bind (pimpl_wordReader__take (⟨xs2_1.1,xs2_1.2.1⟩:wordReader) 3 (mkS [41])) λr3_1=>some (r3_1.2.list,r3_1.2.bad,!(r3_1.1)) else some (xs2_1.1,xs2_1.2.1,false):Option ((List Word_) × Bool × Bool)) λs2_1=>if s2_1.2.2 then Option.bind (if decide (0<((xs2_1.2.2.length:Int))) then Option.bind (pimpl_wordReader__want (⟨s2_1.1,s2_1.2.1⟩:wordReader) 3 (mkS [44])) λr3_2=>some (r3_2.list,r3_2.bad) else some (s2_1.1,s2_1.2.1):Option ((List Word_) × Bool)) λs2_2=>Option.bind (pimpl_wordReader__expr (⟨s2_2.1,s2_2.2⟩:wordReader) 1) λr2_1=>Option.bind (appM xs2_1.2.2 ([r2_1.1]:List Expr_)) λys2_1=>some (.inl (r2_1.2.list,r2_1.2.bad,ys2_1)) else some (.inr (xs2_1.2.2,s2_1.1,s2_1.2.1)):Option (((List Word_) × Bool × (List Expr_)) ⊕ ((List Expr_) × (List Word_) × Bool)))) (ws',b,acc++[e]):=by
 refine loopM_inl ?_
 have e1:isT (v::ws) (mkS [41])=false:=by simp [isT,hv];decide
 have e2:isT (v::ws) (mkS [44])=true:=by simp [isT,hv]
 have e0:decide (0<(acc.length:Int))=true:=by have:=List.length_pos_iff.2 h0;simp;omega
 simp only [take_ok,tk_is hw (t:=mkS [41]) rfl (by decide),want_ok,tk_is hw (t:=mkS [44]) rfl (by decide),e1,e2,Bool.not_false,if_true,Option.bind_some,e0,Bool.false_eq_true,if_false,List.tail_cons,hr,appM_ok (show acc.length+[e].length≤2147483648 by simp;omega)]
theorem imA_want {acc:List Expr_} (h0:acc≠[]) (hal:acc.length≤1000) {ws:List Word_} (hw:vW ws) (h1:isT ws (mkS [41])=false) (h2:isT ws (mkS [44])=false) :
  ∃ ks ws',loopM (λ(xs2_1:(List Word_) × Bool × (List Expr_))=>(Option.bind (if !(xs2_1.2.1) then Option.bind (pimpl_wordReader__take (⟨xs2_1.1,xs2_1.2.1⟩:wordReader) 3 (mkS [41])) λr3_1=>some (r3_1.2.list,r3_1.2.bad,!(r3_1.1)) else some (xs2_1.1,xs2_1.2.1,false):Option ((List Word_) × Bool × Bool)) λs2_1=>if s2_1.2.2 then Option.bind (if decide (0<((xs2_1.2.2.length:Int))) then Option.bind (pimpl_wordReader__want (⟨s2_1.1,s2_1.2.1⟩:wordReader) 3 (mkS [44])) λr3_2=>some (r3_2.list,r3_2.bad) else some (s2_1.1,s2_1.2.1):Option ((List Word_) × Bool)) λs2_2=>Option.bind (pimpl_wordReader__expr (⟨s2_2.1,s2_2.2⟩:wordReader) 1) λr2_1=>Option.bind (appM xs2_1.2.2 ([r2_1.1]:List Expr_)) λys2_1=>some (.inl (r2_1.2.list,r2_1.2.bad,ys2_1)) else some (.inr (xs2_1.2.2,s2_1.1,s2_1.2.1)):Option (((List Word_) × Bool × (List Expr_)) ⊕ ((List Expr_) × (List Word_) × Bool)))) (ws,false,acc)=some (ks,ws',true):=by
 obtain ⟨e,ws',hr⟩:=expr_bad 1 (by omega) ws
 refine ⟨acc++[e],ws',?_⟩
 rw [loopM_inl (s':=(ws',true,acc++[e]))]
 ·exact imA_bad
 have e0:decide (0<(acc.length:Int))=true:=by have:=List.length_pos_iff.2 h0;simp;omega
 simp only [take_ok,tk_is hw (t:=mkS [41]) rfl (by decide),want_ok,tk_is hw (t:=mkS [44]) rfl (by decide),h1,h2,Bool.not_false,if_true,Option.bind_some,e0,Bool.false_eq_true,if_false,hr,appM_ok (show acc.length+[e].length≤2147483648 by simp;omega)]
end Prg
end Go.Wk
namespace Go.Wk
open Go
namespace Prg
set_option maxRecDepth 10000
def ImplJ:Job→Prop
 | .E lv ws e r=>vW ws→ws.length≤1000→pimpl_wordReader__expr ⟨ws,false⟩ lv=some (e,⟨r,false⟩)
 | .L lv x ws e r=>(lv=1∨lv=2∨lv=3∨lv=4)→vW ws→ws.length≤1000→loopM (λ(xs2_1:(List Word_) × Bool × Int × Int × Str × (List Expr_))=>(if !(xs2_1.2.1) then Option.bind (Option.bind (rangeP (λ(p4_1:Int × St_sign_level) (xs4_1:Int)=>Option.bind (Option.bind (if decide (p4_1.2.level=lv) then Option.bind (pimpl_wordReader__peek (⟨xs2_1.1,xs2_1.2.1⟩:wordReader)) λr6_1=>Option.bind (impl_signWord p4_1.2.sign) λr6_2=>some (decide (r6_1.kind=r6_2.kind)&&decide (r6_1.text=r6_2.text)) else some false:Option (Bool)) λs5_1=>Option.bind (if s5_1 then some p4_1.1 else some xs4_1:Option (Int)) λs5_2=>some s5_2:Option (Int)) λs4_2=>some s4_2) (glob_impl_opSign:MapS St_sign_level).es 0) (λxs3_1=>some xs3_1):Option (Int)) λs2_1=>if decide (s2_1=0) then some (.inr (.inl ((⟨xs2_1.2.2.1,xs2_1.2.2.2.1,xs2_1.2.2.2.2.1,xs2_1.2.2.2.2.2⟩:Expr_),(⟨xs2_1.1,xs2_1.2.1⟩:wordReader)))) else Option.bind (pimpl_wordReader__next (⟨xs2_1.1,xs2_1.2.1⟩:wordReader)) λr2_1=>Option.bind (Option.bind (pimpl_wordReader__expr r2_1.2 (w64 (lv+1))) λpb3_1=>some (pb3_1.2.list,pb3_1.2.bad,([(⟨xs2_1.2.2.1,xs2_1.2.2.2.1,xs2_1.2.2.2.2.1,xs2_1.2.2.2.2.2⟩:Expr_),pb3_1.1]:List Expr_)):Option ((List Word_) × Bool × (List Expr_))) λs2_2=>some (.inl (s2_2.1,s2_2.2.1,s2_1,0,(mkS []),s2_2.2.2)) else some (.inr (.inr (xs2_1.2.2.1,xs2_1.2.2.2.1,xs2_1.2.2.2.2.1,xs2_1.2.2.2.2.2,xs2_1.1,xs2_1.2.1))):Option (((List Word_) × Bool × Int × Int × Str × (List Expr_)) ⊕ ((Expr_ × wordReader) ⊕ (Int × Int × Str × (List Expr_) × (List Word_) × Bool))))) (ws,false,x.op,x.n_,x.name,x.kids)=some (.inl (e,⟨r,false⟩))
 | .A ws ks r=>vW ws→ws.length≤1000→loopM (λ(xs2_1:(List Word_) × Bool × (List Expr_))=>(Option.bind (if !(xs2_1.2.1) then Option.bind (pimpl_wordReader__take (⟨xs2_1.1,xs2_1.2.1⟩:wordReader) 3 (mkS [41])) λr3_1=>some (r3_1.2.list,r3_1.2.bad,!(r3_1.1)) else some (xs2_1.1,xs2_1.2.1,false):Option ((List Word_) × Bool × Bool)) λs2_1=>if s2_1.2.2 then Option.bind (if decide (0<((xs2_1.2.2.length:Int))) then Option.bind (pimpl_wordReader__want (⟨s2_1.1,s2_1.2.1⟩:wordReader) 3 (mkS [44])) λr3_2=>some (r3_2.list,r3_2.bad) else some (s2_1.1,s2_1.2.1):Option ((List Word_) × Bool)) λs2_2=>Option.bind (pimpl_wordReader__expr (⟨s2_2.1,s2_2.2⟩:wordReader) 1) λr2_1=>Option.bind (appM xs2_1.2.2 ([r2_1.1]:List Expr_)) λys2_1=>some (.inl (r2_1.2.list,r2_1.2.bad,ys2_1)) else some (.inr (xs2_1.2.2,s2_1.1,s2_1.2.1)):Option (((List Word_) × Bool × (List Expr_)) ⊕ ((List Expr_) × (List Word_) × Bool)))) (ws,false,[])=some (ks,r,false)
 | .M acc ws ks r=>acc≠[]→vW ws→acc.length+ws.length≤1000→loopM (λ(xs2_1:(List Word_) × Bool × (List Expr_))=>(Option.bind (if !(xs2_1.2.1) then Option.bind (pimpl_wordReader__take (⟨xs2_1.1,xs2_1.2.1⟩:wordReader) 3 (mkS [41])) λr3_1=>some (r3_1.2.list,r3_1.2.bad,!(r3_1.1)) else some (xs2_1.1,xs2_1.2.1,false):Option ((List Word_) × Bool × Bool)) λs2_1=>if s2_1.2.2 then Option.bind (if decide (0<((xs2_1.2.2.length:Int))) then Option.bind (pimpl_wordReader__want (⟨s2_1.1,s2_1.2.1⟩:wordReader) 3 (mkS [44])) λr3_2=>some (r3_2.list,r3_2.bad) else some (s2_1.1,s2_1.2.1):Option ((List Word_) × Bool)) λs2_2=>Option.bind (pimpl_wordReader__expr (⟨s2_2.1,s2_2.2⟩:wordReader) 1) λr2_1=>Option.bind (appM xs2_1.2.2 ([r2_1.1]:List Expr_)) λys2_1=>some (.inl (r2_1.2.list,r2_1.2.bad,ys2_1)) else some (.inr (xs2_1.2.2,s2_1.1,s2_1.2.1)):Option (((List Word_) × Bool × (List Expr_)) ⊕ ((List Expr_) × (List Word_) × Bool)))) (ws,false,acc)=some (ks,r,false)
theorem ne_sign {w:Word_} {c:UInt8} {t:Str} (h1:wordB w=true) (h2:w.kind≠3) (h3:t.b=[c]) (h4:c∈sgnL):w.text≠t:=λe=>h2 (sign_kind h1 (by rw [e];exact h3) h4)
theorem rd_impl {j:Job} (h:Rd j):ImplJ j:=by
 induction h
 case neg w ws e r hw h ih =>
  intro ha hl
  have g:=ih (vW_tail ha) (by simp at hl;omega)
  rw [expr5] at g
  rw [expr5,single_cons ha,if_pos hw,g];rfl
 case at_ w ws e r hw h ih =>
  intro ha hl
  have g:=ih (vW_tail ha) (by simp at hl;omega)
  rw [expr5] at g
  rw [expr5,single_cons ha,if_neg (by rw [hw];decide),if_pos hw,g];rfl
 case par w ws e v r hw h hv2 ih =>
  intro ha hl
  have g:=ih (vW_tail ha) (by simp at hl;omega)
  obtain ⟨s1,s2⟩:=rd_suf h
  have hv3:vW (v::r):=λx hx=>vW_tail ha x (s2 x hx)
  have e2:isT (v::r) (mkS [41])=true:=by simp [isT,hv2]
  rw [expr5,single_cons ha,if_neg (by rw [hw];decide),if_neg (by rw [hw];decide),if_pos hw,g,Option.bind_some]
  dsimp only
  rw [want_ok,tk_is hv3 rfl (by decide),e2];rfl
 case num w r hw =>
  intro ha hl
  have hk:w.kind≠3:=by omega
  have h0:=vW_head ha
  rw [expr5,single_cons ha,if_neg (ne_sign h0 hk rfl (by decide)),if_neg (ne_sign h0 hk rfl (by decide)),if_neg (ne_sign h0 hk rfl (by decide)),if_pos hw]
 case var w r hw ht =>
  intro ha hl
  have hk:w.kind≠3:=by omega
  have h0:=vW_head ha
  rw [expr5,single_cons ha,if_neg (ne_sign h0 hk rfl (by decide)),if_neg (ne_sign h0 hk rfl (by decide)),if_neg (ne_sign h0 hk rfl (by decide)),if_neg (by omega),if_neg (by omega),if_pos ht]
 case call w v ws ks r hw ht h ih =>
  intro ha hl
  have hk:w.kind≠3:=by omega
  have h0:=vW_head ha
  have g:=ih (vW_tail (vW_tail ha)) (by simp at hl;omega)
  rw [expr5,single_cons ha,if_neg (ne_sign h0 hk rfl (by decide)),if_neg (ne_sign h0 hk rfl (by decide)),if_neg (ne_sign h0 hk rfl (by decide)),if_neg (by omega),if_neg (by omega),if_neg (by simp [isT,ht]),List.tail_cons,g];rfl
 case up lv ws e ws' e' r hlv h1 h2 ih1 ih2 =>
  intro ha hl
  obtain ⟨s1,s2⟩:=rd_suf h1
  exact expr_inl hlv (ih1 ha hl) (ih2 hlv (λx hx=>ha x (s2 x hx)) (by omega))
 case stop lv e ws ho =>
  intro hlv ha hl
  rw [imL_stop hlv ha ho,mk_eta]
 case step lv e w ws f ws' e' r ho h1 h2 ih1 ih2 =>
  intro hlv ha hl
  obtain ⟨s1,s2⟩:=rd_suf h1
  simp at hl
  rw [imL_step hlv ha ho (ih1 (vW_tail ha) (by omega)),mk_eta]
  exact ih2 hlv (λx hx=>vW_tail ha x (s2 x hx)) (by omega)
 case done v r hv2 =>
  intro ha hl
  exact imA_end ha hv2
 case first ws e ws' ks r ht h1 h2 ih1 ih2 =>
  intro ha hl
  obtain ⟨s1,s2⟩:=rd_suf h1
  rw [imA_first ha ht (ih1 ha hl)]
  exact ih2 (by simp) (λx hx=>ha x (s2 x hx)) (by simp;omega)
 case last acc v r hv2 =>
  intro h0 ha hl
  exact imA_end ha hv2
 case more acc v ws e ws' ks r hv2 h1 h2 ih1 ih2 =>
  intro h0 ha hl
  obtain ⟨s1,s2⟩:=rd_suf h1
  simp at hl
  rw [imA_more h0 (by omega) ha hv2 (ih1 (vW_tail ha) (by omega))]
  exact ih2 (by simp) (λx hx=>vW_tail ha x (s2 x hx)) (by simp;omega)
def FailE (lv:Int) (ws:List Word_):Prop:=(∀ list n,list.length≤1000→vW list→AtW list n ws→∃ e,spec_l2Read list (n:Int) lv=some (e,-1))∧∃ e ws',pimpl_wordReader__expr ⟨ws,false⟩ lv=some (e,⟨ws',true⟩)
def FailL (lv : Int) (x : Expr_) (ws : List Word_) : Prop := (∀ list n, list.length ≤ 1000 → vW list → AtW list n ws → ∃ op n_ nm ks, loopM (fun (xs2_1 : Int × Int × Str × (List Expr_) × Int) => (Option.bind (if decide (0 ≤ xs2_1.2.2.2.2) then Option.bind (spec_l2Op list xs2_1.2.2.2.2 lv) fun r3_1 => some (decide (0 < r3_1)) else some false : Option (Bool)) fun s2_1 => if s2_1 then Option.bind (spec_l2Op list xs2_1.2.2.2.2 lv) fun r2_1 => Option.bind (spec_l2Read list (w64 (xs2_1.2.2.2.2 + 1)) (w64 (lv + 1))) fun r2_2 => some (.inl (r2_1, 0, (mkS []), ([(⟨xs2_1.1, xs2_1.2.1, xs2_1.2.2.1, xs2_1.2.2.2.1⟩ : Expr_), r2_2.1] : List Expr_), r2_2.2)) else some (.inr (xs2_1.1, xs2_1.2.1, xs2_1.2.2.1, xs2_1.2.2.2.1, xs2_1.2.2.2.2)) : Option ((Int × Int × Str × (List Expr_) × Int) ⊕ (Int × Int × Str × (List Expr_) × Int)))) (x.op, x.n_, x.name, x.kids, (n : Int)) = some (op, n_, nm, ks, -1)) ∧
 ∃ op n_ nm ks ws',loopM (λ(xs2_1:(List Word_) × Bool × Int × Int × Str × (List Expr_))=>(if !(xs2_1.2.1) then Option.bind (Option.bind (rangeP (λ(p4_1:Int × St_sign_level) (xs4_1:Int)=>Option.bind (Option.bind (if decide (p4_1.2.level=lv) then Option.bind (pimpl_wordReader__peek (⟨xs2_1.1,xs2_1.2.1⟩:wordReader)) λr6_1=>Option.bind (impl_signWord p4_1.2.sign) λr6_2=>some (decide (r6_1.kind=r6_2.kind)&&decide (r6_1.text=r6_2.text)) else some false:Option (Bool)) λs5_1=>Option.bind (if s5_1 then some p4_1.1 else some xs4_1:Option (Int)) λs5_2=>some s5_2:Option (Int)) λs4_2=>some s4_2) (glob_impl_opSign:MapS St_sign_level).es 0) (λxs3_1=>some xs3_1):Option (Int)) λs2_1=>if decide (s2_1=0) then some (.inr (.inl ((⟨xs2_1.2.2.1,xs2_1.2.2.2.1,xs2_1.2.2.2.2.1,xs2_1.2.2.2.2.2⟩:Expr_),(⟨xs2_1.1,xs2_1.2.1⟩:wordReader)))) else Option.bind (pimpl_wordReader__next (⟨xs2_1.1,xs2_1.2.1⟩:wordReader)) λr2_1=>Option.bind (Option.bind (pimpl_wordReader__expr r2_1.2 (w64 (lv+1))) λpb3_1=>some (pb3_1.2.list,pb3_1.2.bad,([(⟨xs2_1.2.2.1,xs2_1.2.2.2.1,xs2_1.2.2.2.2.1,xs2_1.2.2.2.2.2⟩:Expr_),pb3_1.1]:List Expr_)):Option ((List Word_) × Bool × (List Expr_))) λs2_2=>some (.inl (s2_2.1,s2_2.2.1,s2_1,0,(mkS []),s2_2.2.2)) else some (.inr (.inr (xs2_1.2.2.1,xs2_1.2.2.2.1,xs2_1.2.2.2.2.1,xs2_1.2.2.2.2.2,xs2_1.1,xs2_1.2.1))):Option (((List Word_) × Bool × Int × Int × Str × (List Expr_)) ⊕ ((Expr_ × wordReader) ⊕ (Int × Int × Str × (List Expr_) × (List Word_) × Bool))))) (ws,false,x.op,x.n_,x.name,x.kids)=some (.inr (op,n_,nm,ks,ws',true))
def FailA (ws:List Word_):Prop:=(∀ list n,list.length≤1000→vW list→AtW list n ws→∃ ks,spec_l2List list (n:Int)=some (ks,-1)) ∧
 ∃ ks ws',loopM (λ(xs2_1:(List Word_) × Bool × (List Expr_))=>(Option.bind (if !(xs2_1.2.1) then Option.bind (pimpl_wordReader__take (⟨xs2_1.1,xs2_1.2.1⟩:wordReader) 3 (mkS [41])) λr3_1=>some (r3_1.2.list,r3_1.2.bad,!(r3_1.1)) else some (xs2_1.1,xs2_1.2.1,false):Option ((List Word_) × Bool × Bool)) λs2_1=>if s2_1.2.2 then Option.bind (if decide (0<((xs2_1.2.2.length:Int))) then Option.bind (pimpl_wordReader__want (⟨s2_1.1,s2_1.2.1⟩:wordReader) 3 (mkS [44])) λr3_2=>some (r3_2.list,r3_2.bad) else some (s2_1.1,s2_1.2.1):Option ((List Word_) × Bool)) λs2_2=>Option.bind (pimpl_wordReader__expr (⟨s2_2.1,s2_2.2⟩:wordReader) 1) λr2_1=>Option.bind (appM xs2_1.2.2 ([r2_1.1]:List Expr_)) λys2_1=>some (.inl (r2_1.2.list,r2_1.2.bad,ys2_1)) else some (.inr (xs2_1.2.2,s2_1.1,s2_1.2.1)):Option (((List Word_) × Bool × (List Expr_)) ⊕ ((List Expr_) × (List Word_) × Bool)))) (ws,false,[])=some (ks,ws',true)
def FailM (acc : List Expr_) (ws : List Word_) : Prop := (∀ list n, list.length ≤ 1000 → vW list → AtW list n ws → ∀ q acc0 e, acc = acc0 ++ [e] → acc.length ≤ n → spec_l2Read list q 1 = some (e, (n : Int)) → ∃ ks, loopM (fun (xs1_1 : Int × (List Expr_)) => (Option.bind (spec_l2Read list xs1_1.1 1) fun r1_1 => Option.bind (appM xs1_1.2 ([r1_1.1] : List Expr_)) fun ys1_1 => Option.bind (if decide (r1_1.2 < 0) then some true else Option.bind (spec_l2Is list r1_1.2 (mkS [41])) fun r2_1 => some r2_1 : Option (Bool)) fun s1_1 => if s1_1 then Option.bind (spec_l1Step r1_1.2) fun r1_2 => some (.inr (ys1_1, w64 (r1_1.2 + r1_2))) else Option.bind (spec_l2Is list r1_1.2 (mkS [44])) fun r1_3 => if !(r1_3) then some (.inr (ys1_1, -1)) else some (.inl (w64 (r1_1.2 + 1), ys1_1)) : Option ((Int × (List Expr_)) ⊕ ((List Expr_) × Int)))) (q, acc0) = some (ks, -1)) ∧
 ∃ ks ws',loopM (λ(xs2_1:(List Word_) × Bool × (List Expr_))=>(Option.bind (if !(xs2_1.2.1) then Option.bind (pimpl_wordReader__take (⟨xs2_1.1,xs2_1.2.1⟩:wordReader) 3 (mkS [41])) λr3_1=>some (r3_1.2.list,r3_1.2.bad,!(r3_1.1)) else some (xs2_1.1,xs2_1.2.1,false):Option ((List Word_) × Bool × Bool)) λs2_1=>if s2_1.2.2 then Option.bind (if decide (0<((xs2_1.2.2.length:Int))) then Option.bind (pimpl_wordReader__want (⟨s2_1.1,s2_1.2.1⟩:wordReader) 3 (mkS [44])) λr3_2=>some (r3_2.list,r3_2.bad) else some (s2_1.1,s2_1.2.1):Option ((List Word_) × Bool)) λs2_2=>Option.bind (pimpl_wordReader__expr (⟨s2_2.1,s2_2.2⟩:wordReader) 1) λr2_1=>Option.bind (appM xs2_1.2.2 ([r2_1.1]:List Expr_)) λys2_1=>some (.inl (r2_1.2.list,r2_1.2.bad,ys2_1)) else some (.inr (xs2_1.2.2,s2_1.1,s2_1.2.1)):Option (((List Word_) × Bool × (List Expr_)) ⊕ ((List Expr_) × (List Word_) × Bool)))) (ws,false,acc)=some (ks,ws',true)
def TotE (lv:Int) (ws:List Word_):Prop:=(∃ e r,Rd (.E lv ws e r))∨FailE lv ws
theorem fail_nil:FailE 5 []:=⟨λlist n _ _ ha=>⟨_,by rw [read5];exact tight_nil ha⟩,⟨_,_,by rw [expr5];exact single_nil⟩⟩
theorem tot_L {lv:Int} (hlv:lv=1∨lv=2∨lv=3∨lv=4):∀ (k:Nat) (ws:List Word_),ws.length≤k→vW ws→ws.length≤1000→(∀ ws',ws'.length<ws.length→vW ws'→TotE (lv+1) ws')→∀ x,(∃ e r,Rd (.L lv x ws e r))∨FailL lv x ws:=by
 intro k
 induction k with
 | zero =>
  intro ws hk hv hl ht x
  have:ws=[]:=List.eq_nil_of_length_eq_zero (by omega)
  subst this
  exact .inl ⟨_,_,.stop rfl⟩
 | succ k ih =>
  intro ws hk hv hl ht x
  cases ws with
  | nil=>exact .inl ⟨_,_,.stop rfl⟩
  | cons w ws =>
   simp at hk hl
   by_cases ho:opW lv w=0
   ·exact .inl ⟨_,_,.stop ho⟩
   rcases ht ws (by simp) (vW_tail hv) with ⟨f,r,h1⟩ | ⟨f1,f2⟩
   ·obtain ⟨s1,s2⟩:=rd_suf h1
    have hvr:vW r:=λy hy=>vW_tail hv y (s2 y hy)
    rcases ih r (by omega) hvr (by omega) (λws' h=>ht ws' (by simp;omega)) ⟨opW lv w,0,mkS [],[x,f]⟩ with ⟨e,r',h2⟩ | ⟨f1,f2⟩
    ·exact .inl ⟨_,_,.step ho h1 h2⟩
    ·refine .inr ⟨λlist n hlen hvl ha=>?_,?_⟩
     ·obtain ⟨_,_,h3⟩:=at_cons ha
      obtain ⟨m,g1,g2,g3⟩:=rd_spec hlen hvl h1 (n+1) h3
      obtain ⟨op,n_,nm,ks,h4⟩:=f1 list m hlen hvl g1
      exact ⟨op,n_,nm,ks,by rw [spL_step hlen ha hlv ho g3,mk_eta];exact h4⟩
     ·obtain ⟨op,n_,nm,ks,ws',h4⟩:=f2
      exact ⟨op,n_,nm,ks,ws',by rw [imL_step hlv hv ho (rd_impl h1 (vW_tail hv) (by omega)),mk_eta];exact h4⟩
   ·refine .inr ⟨λlist n hlen hvl ha=>?_,?_⟩
    ·obtain ⟨_,_,h3⟩:=at_cons ha
     obtain ⟨e,h4⟩:=f1 list (n+1) hlen hvl h3
     exact ⟨_,_,_,_,by rw [spL_step hlen ha hlv ho h4];exact spL_bad⟩
    ·obtain ⟨e,ws',h4⟩:=f2
     exact ⟨_,_,_,_,ws',by rw [imL_step hlv hv ho h4];exact imL_bad⟩
theorem tot_up {lv:Int} (hlv:lv=1∨lv=2∨lv=3∨lv=4) {ws:List Word_} (hv:vW ws) (hl:ws.length≤1000) (ht:∀ ws',ws'.length≤ws.length→vW ws'→TotE (lv+1) ws'):TotE lv ws:=by
 rcases ht ws (Nat.le_refl _) hv with ⟨x,r,h1⟩ | ⟨f1,f2⟩
 ·obtain ⟨s1,s2⟩:=rd_suf h1
  rcases tot_L hlv r.length r (Nat.le_refl _) (λy hy=>hv y (s2 y hy)) (by omega) (λws' h=>ht ws' (by omega)) x with ⟨e,r',h2⟩ | ⟨f1,f2⟩
  ·exact .inl ⟨_,_,.up hlv h1 h2⟩
  ·refine .inr ⟨λlist n hlen hvl ha=>?_,?_⟩
   ·obtain ⟨m,g1,g2,g3⟩:=rd_spec hlen hvl h1 n ha
    obtain ⟨op,n_,nm,ks,h4⟩:=f1 list m hlen hvl g1
    exact ⟨_,by rw [read_lv hlv,g3,Option.bind_some,h4];rfl⟩
   ·obtain ⟨op,n_,nm,ks,ws',h4⟩:=f2
    exact ⟨_,ws',expr_inr hlv (rd_impl h1 hv hl) h4⟩
 ·refine .inr ⟨λlist n hlen hvl ha=>?_,?_⟩
  ·obtain ⟨e,h4⟩:=f1 list n hlen hvl ha
   exact ⟨_,by rw [read_lv hlv,h4,Option.bind_some,spL_bad];rfl⟩
  ·obtain ⟨e,ws',h4⟩:=f2
   exact ⟨_,ws',expr_inr hlv h4 imL_bad⟩
theorem tot_M:∀ (k:Nat) (ws:List Word_),ws.length≤k→vW ws→∀ acc,acc≠[]→acc.length+ws.length≤1000→(∀ ws',ws'.length<ws.length→vW ws'→TotE 1 ws')→(∃ ks r,Rd (.M acc ws ks r))∨FailM acc ws:=by
 intro k
 induction k with
 | zero =>
  intro ws hk hv acc h0 hl ht
  have:ws=[]:=List.eq_nil_of_length_eq_zero (by omega)
  subst this
  refine .inr ⟨λlist n hlen hvl ha q acc0 e he hle hr=>?_,imA_want h0 (by simp at hl;omega) hv rfl rfl⟩
  have hle2:=hle
  rw [he] at hle2
  simp at hle2
  have:=ha.2
  exact ⟨_,by rw [spA_at hlen (by omega) ha hr];rfl⟩
 | succ k ih =>
  intro ws hk hv acc h0 hl ht
  by_cases c1:isT ws (mkS [41])=true
  ·cases ws with
   | nil=>cases c1
   | cons v ws=>exact .inl ⟨_,_,.last (by simpa [isT] using c1)⟩
  have c1:isT ws (mkS [41])=false:=by simpa using c1
  by_cases c2:isT ws (mkS [44])=true
  ·cases ws with
   | nil=>cases c2
   | cons v ws =>
    have hv2:v.text=mkS [44]:=by simpa [isT] using c2
    simp at hk hl
    rcases ht ws (by simp) (vW_tail hv) with ⟨f,r,h1⟩ | ⟨f1,f2⟩
    ·obtain ⟨s1,s2⟩:=rd_suf h1
     have hvr:vW r:=λy hy=>vW_tail hv y (s2 y hy)
     rcases ih r (by omega) hvr (acc++[f]) (by simp) (by simp;omega) (λws' h=>ht ws' (by simp;omega)) with ⟨ks,r',h2⟩ | ⟨f1,f2⟩
     ·exact .inl ⟨_,_,.more hv2 h1 h2⟩
     ·refine .inr ⟨λlist n hlen hvl ha q acc0 e he hle hr=>?_,?_⟩
      ·obtain ⟨h5,_,h3⟩:=at_cons ha
       obtain ⟨m,g1,g2,g3⟩:=rd_spec hlen hvl h1 (n+1) h3
       have hle2:=hle
       rw [he] at hle2
       simp at hle2
       obtain ⟨ks,h4⟩:=f1 list m hlen hvl g1 _ acc f rfl (by simp;omega) g3
       exact ⟨ks,by rw [spA_at hlen (by omega) ha hr,c1,c2,← he];exact h4⟩
      ·obtain ⟨ks,ws',h4⟩:=f2
       exact ⟨ks,ws',by rw [imA_more h0 (by omega) hv hv2 (rd_impl h1 (vW_tail hv) (by omega))];exact h4⟩
    ·refine .inr ⟨λlist n hlen hvl ha q acc0 e he hle hr=>?_,?_⟩
     ·obtain ⟨h5,_,h3⟩:=at_cons ha
      obtain ⟨e2,h4⟩:=f1 list (n+1) hlen hvl h3
      have hle2:=hle
      rw [he] at hle2
      simp at hle2
      exact ⟨_,by rw [spA_at hlen (by omega) ha hr,c1,c2,← he];exact spA_bad (by omega) h4⟩
     ·obtain ⟨e2,ws',h4⟩:=f2
      exact ⟨_,ws',by rw [imA_more h0 (by omega) hv hv2 h4];exact imA_bad⟩
  have c2:isT ws (mkS [44])=false:=by simpa using c2
  refine .inr ⟨λlist n hlen hvl ha q acc0 e he hle hr=>?_,imA_want h0 (by omega) hv c1 c2⟩
  have hle2:=hle
  rw [he] at hle2
  simp at hle2
  have:=ha.2
  exact ⟨_,by rw [spA_at hlen (by omega) ha hr,c1,c2];rfl⟩
theorem tot_A {ws:List Word_} (hv:vW ws) (hl:ws.length≤1000) (ht:∀ ws',ws'.length≤ws.length→vW ws'→TotE 1 ws'):(∃ ks r,Rd (.A ws ks r))∨FailA ws:=by
 by_cases c1:isT ws (mkS [41])=true
 ·cases ws with
  | nil=>cases c1
  | cons v ws=>exact .inl ⟨_,_,.done (by simpa [isT] using c1)⟩
 have c1:isT ws (mkS [41])=false:=by simpa using c1
 rcases ht ws (Nat.le_refl _) hv with ⟨x,r,h1⟩ | ⟨f1,f2⟩
 ·obtain ⟨s1,s2⟩:=rd_suf h1
  rcases tot_M r.length r (Nat.le_refl _) (λy hy=>hv y (s2 y hy)) [x] (by simp) (by simp;omega) (λws' h=>ht ws' (by omega)) with ⟨ks,r',h2⟩ | ⟨f1,f2⟩
  ·exact .inl ⟨_,_,.first c1 h1 h2⟩
  ·refine .inr ⟨λlist n hlen hvl ha=>?_,?_⟩
   ·obtain ⟨m,g1,g2,g3⟩:=rd_spec hlen hvl h1 n ha
    obtain ⟨ks,h4⟩:=f1 list m hlen hvl g1 _ [] x rfl (by simp;omega) g3
    exact ⟨ks,by rw [list_eq hlen ha,c1];exact h4⟩
   ·obtain ⟨ks,ws',h4⟩:=f2
    exact ⟨ks,ws',by rw [imA_first hv c1 (rd_impl h1 hv hl)];exact h4⟩
 ·refine .inr ⟨λlist n hlen hvl ha=>?_,?_⟩
  ·obtain ⟨e,h4⟩:=f1 list n hlen hvl ha
   exact ⟨_,by rw [list_eq hlen ha,c1];exact spA_bad (by simp) h4⟩
  ·obtain ⟨e,ws',h4⟩:=f2
   exact ⟨_,ws',by rw [imA_first hv c1 h4];exact imA_bad⟩
theorem tot_5 {ws:List Word_} (hv:vW ws) (hl:ws.length≤1000) (h5:∀ ws',ws'.length<ws.length→vW ws'→TotE 5 ws') (h1:∀ ws',ws'.length<ws.length→vW ws'→TotE 1 ws'):TotE 5 ws:=by
 cases ws with
 | nil=>exact .inr fail_nil
 | cons w ws =>
  have h0:=vW_head hv
  have hvt:=vW_tail hv
  simp at hl
  by_cases c1:w.text=mkS [33]
  ·rcases h5 ws (by simp) hvt with ⟨e, r, h⟩ | ⟨f1, f2⟩
   ·exact .inl ⟨_,_,.neg c1 h⟩
   ·refine .inr ⟨λlist n hlen hvl ha=>?_,?_⟩
    ·obtain ⟨e,g⟩:=f1 list (n+1) hlen hvl (at_cons ha).2.2
     rw [read5] at g
     exact ⟨_,by rw [read5,tight_cons hlen ha,if_pos c1,g];rfl⟩
    ·obtain ⟨e,ws',g⟩:=f2
     rw [expr5] at g
     exact ⟨_,ws',by rw [expr5,single_cons hv,if_pos c1,g];rfl⟩
  by_cases c2:w.text=mkS [64]
  ·rcases h5 ws (by simp) hvt with ⟨e, r, h⟩ | ⟨f1, f2⟩
   ·exact .inl ⟨_,_,.at_ c2 h⟩
   ·refine .inr ⟨λlist n hlen hvl ha=>?_,?_⟩
    ·obtain ⟨e,g⟩:=f1 list (n+1) hlen hvl (at_cons ha).2.2
     rw [read5] at g
     exact ⟨_,by rw [read5,tight_cons hlen ha,if_neg c1,if_pos c2,g];rfl⟩
    ·obtain ⟨e,ws',g⟩:=f2
     rw [expr5] at g
     exact ⟨_,ws',by rw [expr5,single_cons hv,if_neg c1,if_pos c2,g];rfl⟩
  by_cases c3:w.text=mkS [40]
  ·rcases h1 ws (by simp) hvt with ⟨e, r, h⟩ | ⟨f1, f2⟩
   ·obtain ⟨s1,s2⟩:=rd_suf h
    by_cases c4:isT r (mkS [41])=true
    ·cases r with
     | nil=>cases c4
     | cons v r=>exact .inl ⟨_,_,.par c3 h (by simpa [isT] using c4)⟩
    have c4:isT r (mkS [41])=false:=by simpa using c4
    refine .inr ⟨λlist n hlen hvl ha=>?_,?_⟩
    ·obtain ⟨m,g1,g2,g3⟩:=rd_spec hlen hvl h (n+1) (at_cons ha).2.2
     have e1:decide ((m:Int)<0)=false:=by simp
     refine ⟨e,?_⟩
     rw [read5,tight_cons hlen ha,if_neg c1,if_neg c2,if_pos c3,g3,Option.bind_some]
     dsimp only
     rw [e1,at_is g1,c4];rfl
    ·refine ⟨e,r,?_⟩
     rw [expr5,single_cons hv,if_neg c1,if_neg c2,if_pos c3,rd_impl h hvt (by omega),Option.bind_some]
     dsimp only
     rw [want_ok,tk_is (λx hx=>hvt x (s2 x hx)) rfl (by decide),c4];rfl
   ·refine .inr ⟨λlist n hlen hvl ha=>?_,?_⟩
    ·obtain ⟨e,g⟩:=f1 list (n+1) hlen hvl (at_cons ha).2.2
     exact ⟨e,by rw [read5,tight_cons hlen ha,if_neg c1,if_neg c2,if_pos c3,g];rfl⟩
    ·obtain ⟨e,ws',g⟩:=f2
     refine ⟨e,if tkW ws' 3 (mkS [41]) then ws'.tail else ws',?_⟩
     rw [expr5,single_cons hv,if_neg c1,if_neg c2,if_pos c3,g,Option.bind_some]
     dsimp only
     rw [want_ok]
     cases tkW ws' 3 (mkS [41])<;>rfl
  by_cases c4:w.kind=2
  ·exact .inl ⟨_,_,.num c4⟩
  by_cases c5:w.kind=1
  ·cases c6:isT ws (mkS [40]) with
   | false=>exact .inl ⟨_,_,.var c5 c6⟩
   | true =>
    cases ws with
    | nil=>cases c6
    | cons v ws =>
     have c7:v.text=mkS [40]:=by simpa [isT] using c6
     simp at hl
     rcases tot_A (vW_tail hvt) (by omega) (λws' h=>h1 ws' (by simp;omega)) with ⟨ks,r,h⟩ | ⟨f1,f2⟩
     ·exact .inl ⟨_,_,.call c5 c7 h⟩
     ·refine .inr ⟨λlist n hlen hvl ha=>?_,?_⟩
      ·obtain ⟨ks,g⟩:=f1 list (n+2) hlen hvl (at_cons (at_cons ha).2.2).2.2
       exact ⟨_,by rw [read5,tight_cons hlen ha,if_neg c1,if_neg c2,if_neg c3,if_neg c4,if_neg (by omega),if_neg (by rw [c6];decide),g];rfl⟩
      ·obtain ⟨ks,ws',g⟩:=f2
       exact ⟨_,ws',by rw [expr5,single_cons hv,if_neg c1,if_neg c2,if_neg c3,if_neg c4,if_neg (by omega),if_neg (by rw [c6];decide),List.tail_cons,g];rfl⟩
  ·refine .inr ⟨λlist n hlen hvl ha=>⟨_,by rw [read5,tight_cons hlen ha,if_neg c1,if_neg c2,if_neg c3,if_neg c4,if_pos c5]⟩,⟨_,ws,by rw [expr5,single_cons hv,if_neg c1,if_neg c2,if_neg c3,if_neg c4,if_pos c5]⟩⟩
theorem tot_all:∀ (k:Nat) (ws:List Word_),ws.length≤k→ws.length≤1000→vW ws→∀ lv:Int,(lv=1∨lv=2∨lv=3∨lv=4∨lv=5)→TotE lv ws:=by
 intro k
 induction k with
 | zero =>
  intro ws hk hl hv
  have h5:∀ ws':List Word_,ws'.length≤ws.length→vW ws'→TotE 5 ws':=λws' h hv'=>tot_5 hv' (by omega) (λ_ h=>by omega) (λ_ h=>by omega)
  have h4:∀ ws':List Word_,ws'.length≤ws.length→vW ws'→TotE 4 ws':=λws' h hv'=>tot_up (by omega) hv' (by omega) λx hx=>h5 x (by omega)
  have h3:∀ ws':List Word_,ws'.length≤ws.length→vW ws'→TotE 3 ws':=λws' h hv'=>tot_up (by omega) hv' (by omega) λx hx=>h4 x (by omega)
  have h2:∀ ws':List Word_,ws'.length≤ws.length→vW ws'→TotE 2 ws':=λws' h hv'=>tot_up (by omega) hv' (by omega) λx hx=>h3 x (by omega)
  have h1:∀ ws':List Word_,ws'.length≤ws.length→vW ws'→TotE 1 ws':=λws' h hv'=>tot_up (by omega) hv' (by omega) λx hx=>h2 x (by omega)
  rintro lv (rfl | rfl | rfl | rfl | rfl)
  ·exact h1 ws (Nat.le_refl _) hv
  ·exact h2 ws (Nat.le_refl _) hv
  ·exact h3 ws (Nat.le_refl _) hv
  ·exact h4 ws (Nat.le_refl _) hv
  ·exact h5 ws (Nat.le_refl _) hv
 | succ k ih =>
  intro ws hk hl hv
  have h5:∀ ws':List Word_,ws'.length≤ws.length→vW ws'→TotE 5 ws':=λws' h hv'=>tot_5 hv' (by omega) (λx hx hvx=>ih x (by omega) (by omega) hvx 5 (by omega)) (λx hx hvx=>ih x (by omega) (by omega) hvx 1 (by omega))
  have h4:∀ ws':List Word_,ws'.length≤ws.length→vW ws'→TotE 4 ws':=λws' h hv'=>tot_up (by omega) hv' (by omega) λx hx=>h5 x (by omega)
  have h3:∀ ws':List Word_,ws'.length≤ws.length→vW ws'→TotE 3 ws':=λws' h hv'=>tot_up (by omega) hv' (by omega) λx hx=>h4 x (by omega)
  have h2:∀ ws':List Word_,ws'.length≤ws.length→vW ws'→TotE 2 ws':=λws' h hv'=>tot_up (by omega) hv' (by omega) λx hx=>h3 x (by omega)
  have h1:∀ ws':List Word_,ws'.length≤ws.length→vW ws'→TotE 1 ws':=λws' h hv'=>tot_up (by omega) hv' (by omega) λx hx=>h2 x (by omega)
  rintro lv (rfl | rfl | rfl | rfl | rfl)
  ·exact h1 ws (Nat.le_refl _) hv
  ·exact h2 ws (Nat.le_refl _) hv
  ·exact h3 ws (Nat.le_refl _) hv
  ·exact h4 ws (Nat.le_refl _) hv
  ·exact h5 ws (Nat.le_refl _) hv
end Prg
end Go.Wk
namespace Go.Wk
open Go
namespace Prg
set_option maxRecDepth 10000
theorem tok_valid:∀ (k:Nat) (l:List UInt8),l.length≤k→∀ ws,tok l=some ws→vW ws:=by
 intro k
 induction k with
 | zero =>
  intro l hl ws h
  have:l=[]:=List.eq_nil_of_length_eq_zero (by omega)
  subst this
  rw [tok_nil] at h
  cases h
  exact λw hw=>by cases hw
 | succ k ih =>
  intro l hl ws h
  cases l with
  | nil =>
   rw [tok_nil] at h
   cases h
   exact λw hw=>by cases hw
  | cons c r =>
   rw [tok_cons] at h
   simp at hl
   by_cases h1:blkB c=true
   ·rw [if_pos h1] at h
    exact ih r hl ws h
   rw [if_neg h1] at h
   by_cases h2:wordB (mkWd c (r.takeWhile (runP c)))=true
   ·rw [if_pos h2] at h
    obtain ⟨ws',h3,h4⟩:=Option.map_eq_some_iff.1 h
    have:=ih _ (Nat.le_trans (drop_le _ _) hl) ws' h3
    subst h4
    intro w hw
    rcases List.mem_cons.1 hw with rfl | hw
    ·exact h2
    ·exact this w hw
   ·rw [if_neg h2] at h;cases h
theorem cutR_valid {s:Str} {ws:List Word_} (h:cutR s=some ws):vW ws∧ws.length≤600:=by
 unfold cutR at h
 split at h
 ·rw [Option.filter_eq_some_iff,decide_eq_true_iff] at h
  exact ⟨tok_valid _ _ (Nat.le_refl _) _ h.1,h.2⟩
 ·cases h
def noE:Expr_:=⟨0,0,mkS [],[]⟩
theorem at_zero (ws:List Word_):AtW ws 0 ws:=⟨rfl,Nat.zero_le _⟩
theorem cutV_some {s:Str} {ws:List Word_} (h:cutR s=some ws):cutV s=(ws,true):=by unfold cutV;rw [h]
theorem cutV_none {s:Str} (h:cutR s=none):cutV s=([],false):=by unfold cutV;rw [h]
end Prg
end Go.Wk
namespace Go.Wk
open Go
namespace Prg
set_option maxRecDepth 10000
end Prg
end Go.Wk
namespace Go.Wk
open Go
namespace Prg
set_option maxRecDepth 10000
def numS (n:Int):Str:=(itoaM n).getD (mkS [])
theorem dig_mod (n:Nat):byteI (48+((n % 10:Nat):Int))=UInt8.ofNat (48+n % 10):=by
 unfold byteI
 congr 1
 omega
theorem decD_len:∀ n:Nat,n<1000→(Lib.decDigits n).length≤3:=by
 intro n h
 rw [Lib.decDigits]
 split
 ·simp
 ·rw [Lib.decDigits]
  split
  ·simp
  ·rw [Lib.decDigits]
   split
   ·simp
   ·omega
theorem numS_ok {n:Nat} (h:n<1000):strconv_Itoa (n:Int)=some (numS n)∧(numS n).b=Lib.decDigits n:=by
 have hl:=decD_len n h
 have hi:Lib.itoa (n:Int)=Lib.decDigits n:=by unfold Lib.itoa;rw [if_neg (by omega)];simp
 have:itoaM (n:Int)=some ⟨Lib.decDigits n,by omega⟩:=by
  unfold itoaM
  have h1:(Lib.itoa (n:Int)).length≤140737488355328:=by rw [hi];omega
  rw [dif_pos h1,if_pos ⟨by omega,by omega⟩]
  simp only [hi]
 constructor
 ·unfold strconv_Itoa numS;rw [this];rfl
 ·unfold numS;rw [this];rfl
theorem l30_loop:∀ (n:Nat) (s:Str),n≤100000→s.b.length+n≤200000→∃ (m:Nat) (t:Str),loopM (λ(xs2_1:Int × Str)=>(if decide (9<xs2_1.1) then Option.bind (catS (strL ([(byteI (w64 (48+(xs2_1.1.tmod 10))))]:List UInt8)) xs2_1.2) λx2_1=>some (.inl (w64 (xs2_1.1.tdiv 10),x2_1)) else some (.inr (xs2_1.1,xs2_1.2)):Option ((Int × Str) ⊕ (Int × Str)))) ((n:Int),s)=some ((m:Int),t)∧m≤9∧UInt8.ofNat (48+m)::t.b=Lib.decDigits n++s.b∧t.b.length≤s.b.length+n:=by
 intro n
 induction n using Nat.strongRecOn with
 | ind n ih =>
  intro s hn hs
  by_cases h0:n≤9
  ·refine ⟨n, s, loopM_inr ?_, h0, ?_, by omega⟩
   ·have e1 : decide (9 < (n : Int)) = false := by simp; omega
    dsimp only
    rw [e1];rfl
   ·rw [Lib.decDigits,dif_pos (by omega)];rfl
  ·have e1 : decide (9 < (n : Int)) = true := by simp; omega
   have e2:w64 ((n:Int).tdiv 10)=((n / 10:Nat):Int):=by
    have:(n:Int).tdiv 10=((n / 10:Nat):Int):=by rw [Int.tdiv_eq_ediv_of_nonneg (by omega)];omega
    rw [this,w64_id (by omega) (by omega)]
   have e3:w64 (48+(n:Int).tmod 10)=48+((n % 10:Nat):Int):=by
    have:(n:Int).tmod 10=((n % 10:Nat):Int):=by rw [Int.tmod_eq_emod_of_nonneg (by omega)];omega
    rw [this,w64_id (by omega) (by omega)]
   have hc:(strL [byteI (48+((n % 10:Nat):Int))]).b=[UInt8.ofNat (48+n % 10)]:=by rw [strL_b (by simp),dig_mod]
   generalize hg:strL [byteI (48+((n % 10:Nat):Int))]=c at hc
   have hc1:c.b.length=1:=by rw [hc];rfl
   obtain ⟨t,ht,ht2⟩:∃ t,catS c s=some t∧t.b=c.b++s.b:=by
    refine ⟨⟨c.b++s.b,by simp;omega⟩,catS_some.2 ⟨by omega,rfl⟩,rfl⟩
   have ht3:t.b.length=s.b.length+1:=by rw [ht2];simp;omega
   obtain ⟨m,u,h1,h2,h3,h4⟩:=ih (n / 10) (by omega) t (by omega) (by omega)
   refine ⟨m,u,?_,h2,?_,by omega⟩
   ·rw [loopM_inl (s':=(((n / 10:Nat):Int),t))]
    ·exact h1
    ·dsimp only
     rw [if_pos e1,e3,hg,ht,Option.bind_some,e2]
   ·rw [h3,ht2,hc]
    conv=>rhs;rw [Lib.decDigits,dif_neg (by omega)]
    simp
theorem l30Dec_ok {n:Nat} (h:n<1000):spec_l30Dec (n:Int)=some (numS n):=by
 rw [spec_l30Dec]
 have e1:decide ((n:Int) < -9223372036854775807)=false:=decide_eq_false (by omega)
 have e2:decide ((n:Int)<0)=false:=by simp
 rw [e1,e2]
 simp only [Bool.false_eq_true,if_false]
 obtain ⟨m,t,h1,h2,h3,h4⟩:=l30_loop n (mkS []) (by omega) (by show 0+n≤_;omega)
 rw [h1]
 simp only [Option.bind_some]
 have e3:w64 (48+(m:Int))=48+((m % 10:Nat):Int):=by rw [w64_id (by omega) (by omega)];omega
 have e4:m % 10=m:=by omega
 have hc:(strL [byteI (w64 (48+(m:Int)))]).b=[UInt8.ofNat (48+m)]:=by rw [strL_b (by simp),e3,dig_mod,e4]
 have h5:t.b.length≤n:=by simpa [mkS] using h4
 have:catS (strL [byteI (w64 (48+(m:Int)))]) t=some (numS n):=by
  refine catS_some.2 ⟨by rw [hc];simp;omega,?_⟩
  rw [(numS_ok h).2,hc]
  exact ((List.append_nil _).symm.trans h3.symm)
 rw [this];rfl
theorem decD_digits:∀ n:Nat,(Lib.decDigits n).all digB=true:=by
 intro n
 induction n using Nat.strongRecOn with
 | ind n ih =>
  have hd:∀ k:Nat,k<10→digB (UInt8.ofNat (48+k))=true:=by
   intro k hk
   rw [dig_iff]
   have:(UInt8.ofNat (48+k)).toNat=48+k:=by rw [UInt8.toNat_ofNat'];omega
   omega
  rw [Lib.decDigits]
  split
  ·rw [List.all_cons,hd n (by omega)];rfl
  ·rw [List.all_append,ih (n / 10) (by omega),List.all_cons,hd (n % 10) (by omega)];rfl
theorem decD_val:∀ n:Nat,vD 0 (Lib.decDigits n)=n:=by
 intro n
 induction n using Nat.strongRecOn with
 | ind n ih =>
  have hd:∀ k:Nat,k<10→(UInt8.ofNat (48+k)).toNat - 48=k:=by
   intro k hk
   have:(UInt8.ofNat (48+k)).toNat=48+k:=by rw [UInt8.toNat_ofNat'];omega
   omega
  rw [Lib.decDigits]
  split
  ·show 0 * 10 + ((UInt8.ofNat (48 + n)).toNat - 48) = n
   rw [hd n (by omega)];omega
  ·rw [vD_snoc,ih (n / 10) (by omega),hd (n % 10) (by omega)];omega
theorem decD_head:∀ n:Nat,0<n→(Lib.decDigits n)[0]?≠some 48:=by
 intro n
 induction n using Nat.strongRecOn with
 | ind n ih =>
  intro h0
  rw [Lib.decDigits]
  split
  ·intro h
   have this:=congrArg UInt8.toNat (Option.some.inj h)
   rw [UInt8.toNat_ofNat'] at this
   have h48:(48:UInt8).toNat=48:=rfl
   omega
  ·have h1 := ih (n / 10) (by omega) (by omega)
   cases hd:Lib.decDigits (n / 10) with
   | nil =>
    rw [Lib.decDigits] at hd
    split at hd<;>simp at hd
   | cons a l=>rw [hd] at h1;simpa using h1
theorem decD_ne (n:Nat):Lib.decDigits n≠[]:=by
 rw [Lib.decDigits];split<;>simp
theorem numI_numS {n:Nat} (h:n≤255):numI (numS n)=n:=by
 have hz:zeroB (Lib.decDigits n)=false:=by
  unfold zeroB
  by_cases h0:n=0
  ·subst h0
   have:Lib.decDigits 0=[48]:=by rw [Lib.decDigits];rfl
   rw [this];rfl
  ·have := decD_head n (by omega)
   simp [this]
 unfold numI
 rw [(numS_ok (by omega)).2,if_pos ⟨decD_ne n,decD_digits n,hz,by rw [decD_val];exact h⟩,decD_val]
def txt (ws:List Word_):List UInt8:=Lib.join (ws.map (λw=>w.text.b)) [32]
theorem txt_nil:txt []=[]:=rfl
theorem txt_one (w:Word_):txt [w]=w.text.b:=Lib.join_one _ _
theorem txt_cons {w:Word_} {ws:List Word_} (h:ws≠[]):txt (w::ws)=w.text.b++32::txt ws:=by
 obtain ⟨v,r,rfl⟩:∃ v r,ws=v::r:=by cases ws with | nil=>exact absurd rfl h | cons v r=>exact ⟨v,r,rfl⟩
 unfold txt
 rw [List.map_cons,List.map_cons,Lib.join_cons,Lib.join_cons]
 simp [Lib.joinTail]
theorem txt_app:∀ {a b:List Word_},a≠[]→b≠[]→txt (a++b)=txt a++32::txt b
 | [],_,h,_=>absurd rfl h
 | [w],b,_,hb=>by rw [List.cons_append,List.nil_append,txt_cons hb,txt_one]
 | w::v::r,b,_,hb=>by
  rw [List.cons_append,txt_cons (by simp),txt_app (a:=v::r) (by simp) hb,txt_cons (w:=w) (ws:=v::r) (by simp)]
  simp
theorem take_self {p:UInt8→Bool}:∀ {l:List UInt8},l.all p=true→l.takeWhile p=l
 | [],_=>rfl
 | a::l,h=>by
  rw [List.all_cons,Bool.and_eq_true] at h
  rw [List.takeWhile_cons,if_pos h.1,take_self h.2]
theorem take_stop {p:UInt8→Bool} {b:UInt8} (hb:p b=false):∀ {l r:List UInt8},l.takeWhile p=l→(l++b::r).takeWhile p=l∧(l++b::r).dropWhile p=b::r
 | [],r,_=>by
  rw [List.nil_append,List.takeWhile_cons,List.dropWhile_cons,hb]
  exact ⟨rfl,rfl⟩
 | a::l,r,h=>by
  rw [List.takeWhile_cons] at h
  split at h
  ·rename_i ha
   have:=take_stop hb (l:=l) (r:=r) (by simpa using h)
   rw [List.cons_append,List.takeWhile_cons,List.dropWhile_cons,if_pos ha,if_pos ha,this.1,this.2]
   exact ⟨rfl,rfl⟩
  ·cases h
theorem drop_self {p:UInt8→Bool}:∀ {l:List UInt8},l.takeWhile p=l→l.dropWhile p=[]
 | [],_=>rfl
 | a::l,h=>by
  rw [List.takeWhile_cons] at h
  split at h
  ·rename_i ha
   rw [List.dropWhile_cons,if_pos ha,drop_self (by simpa using h)]
  ·cases h
theorem key_all {s:Str} (h:keyB s=true):s.b≠[]∧s.b.all letB=true∧s.b.length≤4:=by
 have hm:s∈glob_impl_keys:=of_decide_eq_true h
 have key:∀ k∈glob_impl_keys,k.b≠[]∧k.b.all letB=true∧k.b.length≤4:=by
  intro k hk
  unfold glob_impl_keys at hk
  simp only [List.mem_cons,List.not_mem_nil,or_false] at hk
  rcases hk with rfl | rfl | rfl | rfl | rfl | rfl | rfl | rfl | rfl<;>exact ⟨by decide,by decide,by decide⟩
 exact key s hm
theorem let_blk {c:UInt8} (h:letB c=true∨digB c=true∨c∈sgnL):blkB c=false:=by
 have key:letB 32=false∧digB 32=false∧(32:UInt8) ∉ sgnL∧letB 10=false∧digB 10=false∧(10:UInt8) ∉ sgnL:=by decide
 obtain ⟨k1,k2,k3,k4,k5,k6⟩:=key
 unfold blkB
 rw [decide_eq_false_iff_not]
 rintro (rfl | rfl)
 ·rcases h with h | h | h
  ·rw [k1] at h;cases h
  ·rw [k2] at h;cases h
  ·exact k3 h
 ·rcases h with h | h | h
  ·rw [k4] at h;cases h
  ·rw [k5] at h;cases h
  ·exact k6 h
theorem word_run {w:Word_} (h:wordB w=true):∃ c l,w.text.b=c::l∧blkB c=false∧l.takeWhile (runP c)=l∧mkWd c l=w∧w.text.b.length≤4:=by
 obtain ⟨kind,s⟩:=w
 have hb:∀ {c l},s.b=c::l→mkWd c l=⟨kindB c s,s⟩:=λ{c l} e=>by unfold mkWd;rw [← e,toS_eq]
 unfold wordB at h
 dsimp only at h ⊢
 by_cases h1:kind=1
 ·rw [if_pos h1] at h
  unfold nameB at h
  simp only [Bool.and_eq_true,decide_eq_true_iff,Bool.not_eq_true'] at h
  obtain ⟨⟨⟨g1,g2⟩,g3⟩,g4⟩:=h
  obtain ⟨c,l,hc⟩:∃ c l,s.b=c::l:=by cases hs:s.b with | nil=>exact absurd hs g1 | cons c l=>exact ⟨c,l,rfl⟩
  rw [hc,List.all_cons,Bool.and_eq_true] at g2
  refine ⟨c,l,hc,let_blk (.inl g2.1),take_self ?_,?_,g3⟩
  ·have : runP c = letB := by funext x; unfold runP; rw [g2.1]; rfl
   rw [this];exact g2.2
  ·rw [hb hc,h1]
   unfold kindB
   rw [g4,g2.1];rfl
 rw [if_neg h1] at h
 by_cases h2:kind=2
 ·rw [if_pos h2,decide_eq_true_iff] at h
  have hI:s.b≠[]∧s.b.all digB=true∧zeroB s.b=false∧vD 0 s.b≤255:=by
   unfold numI at h
   split at h
   ·rename_i h';exact h'
   ·omega
  obtain ⟨g1,g2,g3,g4⟩:=hI
  have hlen:s.b.length≤4:=by
   rcases Nat.lt_or_ge s.b.length 4 with h' | h'
   ·omega
   ·have:=num_long g3 g2 h';omega
  obtain ⟨c,l,hc⟩:∃ c l,s.b=c::l:=by cases hs:s.b with | nil=>exact absurd hs g1 | cons c l=>exact ⟨c,l,rfl⟩
  rw [hc,List.all_cons,Bool.and_eq_true] at g2
  have hlet:letB c=false:=by
   cases hl:letB c with
   | false=>rfl
   | true=>rw [let_dig hl] at g2;cases g2.1
  have hk:keyB s=false:=by
   cases hk:keyB s with
   | false=>rfl
   | true=>rw [key_let hc hk] at hlet;cases hlet
  refine ⟨c,l,hc,let_blk (.inr (.inl g2.1)),take_self ?_,?_,hlen⟩
  ·have : runP c = digB := by funext x; unfold runP; rw [hlet, g2.1]; rfl
   rw [this];exact g2.2
  ·rw [hb hc,h2]
   unfold kindB
   rw [hk,hlet,g2.1];rfl
 rw [if_neg h2] at h
 by_cases h3:kind=3
 ·rw [if_pos h3] at h
  match hs:s.b,h with
  | [c],h =>
   have hcm:c∈sgnL:=of_decide_eq_true h
   have hcl:letB c=false∧digB c=false:=by
    have key:∀ c∈sgnL,letB c=false∧digB c=false:=by decide
    exact key c hcm
   have hk:keyB s=false:=by
    cases hk:keyB s with
    | false=>rfl
    | true=>have:=key_let hs hk;rw [hcl.1] at this;cases this
   refine ⟨c,[],rfl,let_blk (.inr (.inr hcm)),rfl,?_,by simp⟩
   rw [hb hs,h3]
   unfold kindB
   rw [hk,hcl.1,hcl.2];rfl
 rw [if_neg h3] at h
 by_cases h4:kind=4
 ·rw [if_pos h4] at h
  obtain ⟨g1,g2,g3⟩:=key_all h
  obtain ⟨c,l,hc⟩:∃ c l,s.b=c::l:=by cases hs:s.b with | nil=>exact absurd hs g1 | cons c l=>exact ⟨c,l,rfl⟩
  rw [hc,List.all_cons,Bool.and_eq_true] at g2
  refine ⟨c,l,hc,let_blk (.inl g2.1),take_self ?_,?_,g3⟩
  ·have : runP c = letB := by funext x; unfold runP; rw [g2.1]; rfl
   rw [this];exact g2.2
  ·rw [hb hc,h4]
   unfold kindB
   rw [h];rfl
 ·rw [if_neg h4] at h;cases h
theorem run_blk (c:UInt8):runP c 32=false:=by
 have:letB 32=false∧digB 32=false:=by decide
 unfold runP
 rw [this.1,this.2]
 cases letB c<;>cases digB c<;>rfl
theorem tok_txt:∀ (ws:List Word_),vW ws→tok (txt ws)=some ws
 | [],_=>by rw [txt_nil,tok_nil]
 | [w],h=>by
  have hw:=vW_head h
  obtain ⟨c,l,h1,h2,h3,h4,_⟩:=word_run hw
  rw [txt_one,h1,tok_cons,h2,if_neg (by decide),h3,h4,if_pos hw,drop_self h3,tok_nil];rfl
 | w::v::r,h=>by
  have hw:=vW_head h
  obtain ⟨c,l,h1,h2,h3,h4,_⟩:=word_run hw
  have h5:=take_stop (run_blk c) (r:=txt (v::r)) h3
  rw [txt_cons (by simp),h1,List.cons_append,tok_cons,h2,if_neg (by decide),h5.1,h5.2,h4,if_pos hw,tok_cons 32,if_pos (by decide),tok_txt (v::r) (vW_tail h)];rfl
theorem txt_len:∀ (ws:List Word_),vW ws→(txt ws).length≤5*ws.length
 | [],_=>by rw [txt_nil];simp
 | [w],h=>by
  obtain ⟨c,l,h1,h2,h3,h4,h5⟩:=word_run (vW_head h)
  rw [txt_one];simp;omega
 | w::v::r,h=>by
  obtain ⟨c,l,h1,h2,h3,h4,h5⟩:=word_run (vW_head h)
  have:=txt_len (v::r) (vW_tail h)
  rw [txt_cons (by simp)]
  simp at this ⊢
  omega
end Prg
end Go.Wk
namespace Go.Wk
open Go
namespace Prg
set_option maxRecDepth 10000
def pL:Word_:=⟨3,mkS [40]⟩
def pR:Word_:=⟨3,mkS [41]⟩
def cM:Word_:=⟨3,mkS [44]⟩
def sgS (op:Int):Str:=if op=3 then mkS [43] else if op=4 then mkS [45] else if op=5 then mkS [42] else if op=6 then mkS [47] else if op=7 then mkS [37] else if op=8 then mkS [60] else if op=9 then mkS [61] else if op=10 then mkS [38] else if op=11 then mkS [33] else mkS [64]
def sgW (op:Int):Word_:=⟨3,sgS op⟩
def aW:List (List Word_)→List Word_
 | []=>[]
 | x::r=>x++(r.map (cM::·)).flatten
def kid (e:Expr_) (i:Nat):Expr_:=(e.kids[i]?).getD noE
def brW (b:Bool) (ws:List Word_):List Word_:=if b then pL::(ws++[pR]) else ws
def wE:Nat→Expr_→List Word_
 | 0,_=>[]
 | d+1,e =>
  if e.op=1 then [⟨2,numS e.n_⟩]
  else if e.op=2 then [⟨1,e.name⟩]
  else if e.op=13 then ⟨1,e.name⟩::pL::(aW (e.kids.map (wE d))++[pR])
  else if e.op=11∨e.op=12 then sgW e.op::brW (decide (lvI (kid e 0).op<5)) (wE d (kid e 0))
  else brW (decide (lvI (kid e 0).op<lvI e.op)) (wE d (kid e 0))++sgW e.op::brW (decide (lvI (kid e 1).op≤lvI e.op)) (wE d (kid e 1))
theorem aW_snoc (l:List (List Word_)) (x:List Word_):aW (l++[x])=if l=[] then x else aW l++cM::x:=by
 cases l with
 | nil=>simp [aW]
 | cons y l=>simp [aW]
theorem op_lv {op:Int} (h:inB op 1 13=true):(op=1∨op=2∨op=13)∧lvI op=6∨(op=11∨op=12)∧lvI op=5∨(3≤op∧op≤10)∧(lvI op=1∨lvI op=2∨lvI op=3∨lvI op=4):=by
 rcases op_cases h with rfl | rfl | rfl | rfl | rfl | rfl | rfl | rfl | rfl | rfl | rfl | rfl | rfl<;>simp [lvI]
theorem signS_ok {op:Int} (h:3≤op∧op≤12):spec_l2Sign op=some (sgS op):=by
 have:op=3∨op=4∨op=5∨op=6∨op=7∨op=8∨op=9∨op=10∨op=11∨op=12:=by omega
 rcases this with rfl | rfl | rfl | rfl | rfl | rfl | rfl | rfl | rfl | rfl<;>rfl
theorem head_iff {e:Expr_} (h:headB e=true):inB e.op 1 13=true∧(e.op=1→0≤e.n_∧e.n_≤255)∧(e.op=1∨e.n_=0)∧((e.op=2∨e.op=13)→nameB e.name=true)∧(¬ (e.op=2∨e.op=13)→e.name=mkS []) ∧
  ((e.op=1∨e.op=2)→e.kids=[])∧((e.op=11∨e.op=12)→∃ a,e.kids=[a])∧((3≤e.op∧e.op≤10)→∃ a b,e.kids=[a,b])∧e.kids.length≤3:=by
 have hk3:=head_kids h
 unfold headB at h
 simp only [Bool.and_eq_true,decide_eq_true_iff] at h
 obtain ⟨h1,h2,h3,h4,h5⟩:=h
 have h4':=inB_iff.1 h4
 have h2':=inB_iff.1 h2
 refine ⟨h1,λ_=>h4',h5,λhc=>?_,λhc=>?_,λhc=>?_,λhc=>?_,λhc=>?_,hk3⟩
 ·rw [if_pos hc] at h3;exact h3
 ·rw [if_neg hc,decide_eq_true_iff] at h3;exact h3
 ·have : kidsI e.op = (0, 0) := by unfold kidsI; rw [if_pos hc]
  rw [this] at h2'
  exact List.eq_nil_of_length_eq_zero (by have:=h2'.2;dsimp only at this;omega)
 ·have : kidsI e.op = (1, 1) := by unfold kidsI; rw [if_neg (by omega), if_pos hc]
  rw [this] at h2'
  match hk:e.kids,h2' with
  | [a],_=>exact ⟨a,rfl⟩
  | [],h=>simp at h
  | _::_::_,h=>simp at h;omega
 ·have : kidsI e.op = (2, 2) := by unfold kidsI; rw [if_neg (by omega), if_neg (by omega), if_neg (by omega)]
  rw [this] at h2'
  match hk:e.kids,h2' with
  | [a,b],_=>exact ⟨a,b,rfl⟩
  | [],h=>simp at h
  | [_],h=>simp at h
  | _::_::_::_,h=>simp at h;omega
theorem wE_ne:∀ {d:Nat} {e:Expr_},formE d e=true→wE d e≠[]:=by
 intro d e h
 cases d with
 | zero=>rw [formE] at h;cases h
 | succ d =>
  rw [wE]
  repeat' split
  all_goals simp
theorem brW_ne {b:Bool} {ws:List Word_} (h:ws≠[]):brW b ws≠[]:=by
 unfold brW;split
 ·simp
 ·exact h
theorem brW_len (b:Bool) (ws:List Word_):(brW b ws).length≤ws.length+2:=by
 unfold brW;split<;>simp
theorem aW_len:∀ l:List (List Word_),(aW l).length≤(l.map List.length).sum+l.length
 | []=>by simp [aW]
 | x::r=>by
  have:∀ r:List (List Word_),((r.map (cM::·)).flatten).length=(r.map List.length).sum+r.length:=by
   intro r
   induction r with
   | nil=>rfl
   | cons y r ih=>simp at ih ⊢;omega
  simp only [aW,List.length_append,this,List.map_cons,List.sum_cons,List.length_cons]
  omega
theorem wE_len:∀ {d:Nat} {e:Expr_},formE d e=true→(wE d e).length+3≤6*partsE e
 | 0,e,h=>by rw [formE] at h;cases h
 | d+1,e,h=>by
  obtain ⟨h1,h2⟩:=form_kids h
  obtain ⟨i1,_,_,_,_,i6,i7,i8,i9⟩:=head_iff h1
  rw [partsE_eq,wE]
  by_cases c1:e.op=1
  ·rw [if_pos c1];simp;omega
  rw [if_neg c1]
  by_cases c2:e.op=2
  ·rw [if_pos c2];simp;omega
  rw [if_neg c2]
  by_cases c3:e.op=13
  ·rw [if_pos c3]
   have h4:=aW_len (e.kids.map (wE d))
   have h5:∀ ks:List Expr_,(∀ k∈ks,formE d k=true)→((ks.map (wE d)).map List.length).sum+3*ks.length≤6*partsL ks:=by
    intro ks
    induction ks with
    | nil=>intro _;simp
    | cons k ks ih =>
     intro hk
     have g1:=wE_len (hk k (by simp))
     have g2:=ih λx hx=>hk x (by simp [hx])
     rw [partsL_cons]
     simp at g2 ⊢
     omega
   have h6:=h5 e.kids h2
   simp at h4 ⊢
   simp at h6
   omega
  rw [if_neg c3]
  by_cases c4:e.op=11∨e.op=12
  ·rw [if_pos c4]
   obtain ⟨a,ha⟩:=i7 c4
   have hk:kid e 0=a:=by unfold kid;rw [ha];rfl
   have g1:=wE_len (h2 a (by rw [ha];simp))
   have g2:=brW_len (decide (lvI a.op<5)) (wE d a)
   rw [hk,ha,partsL_cons,partsL_nil]
   simp
   omega
  ·rw [if_neg c4]
   rw [inB_iff] at i1
   obtain ⟨a,b,ha⟩:=i8 (by omega)
   have hk:kid e 0=a:=by unfold kid;rw [ha];rfl
   have hk1:kid e 1=b:=by unfold kid;rw [ha];rfl
   have g1:=wE_len (h2 a (by rw [ha];simp))
   have g2:=brW_len (decide (lvI a.op<lvI e.op)) (wE d a)
   have g3:=wE_len (h2 b (by rw [ha];simp))
   have g4:=brW_len (decide (lvI b.op≤lvI e.op)) (wE d b)
   rw [hk,hk1,ha,partsL_cons,partsL_cons,partsL_nil]
   simp
   omega
end Prg
end Go.Wk
namespace Go.Wk
open Go
namespace Prg
set_option maxRecDepth 10000
theorem sg_valid {op:Int}:wordB (sgW op)=true:=by
 unfold sgW sgS
 repeat' split
 all_goals rfl
theorem vW_app {a b:List Word_} (ha:vW a) (hb:vW b):vW (a++b):=λw hw=>by
 rcases List.mem_append.1 hw with h | h
 ·exact ha w h
 ·exact hb w h
theorem vW_cons {w:Word_} {b:List Word_} (ha:wordB w=true) (hb:vW b):vW (w::b):=λx hx=>by
 rcases List.mem_cons.1 hx with rfl | h
 ·exact ha
 ·exact hb x h
theorem vW_nil:vW []:=λw hw=>by cases hw
theorem brW_valid {b:Bool} {ws:List Word_} (h:vW ws):vW (brW b ws):=by
 unfold brW
 split
 ·exact vW_cons rfl (vW_app h (vW_cons rfl vW_nil))
 ·exact h
theorem aW_valid:∀ {l:List (List Word_)},(∀ x∈l,vW x)→vW (aW l)
 | [],_=>vW_nil
 | x::r,h=>by
  unfold aW
  refine vW_app (h x (by simp)) λw hw=>?_
  obtain ⟨y,hy,hw⟩:=List.mem_flatten.1 hw
  obtain ⟨z,hz,rfl⟩:=List.mem_map.1 hy
  exact vW_cons (w:=cM) rfl (h z (by simp [hz])) w hw
theorem wE_valid:∀ {d:Nat} {e:Expr_},formE d e=true→vW (wE d e)
 | 0,e,h=>by rw [formE] at h;cases h
 | d+1,e,h=>by
  obtain ⟨h1,h2⟩:=form_kids h
  obtain ⟨i1,i2,_,i4,_,i6,i7,i8,i9⟩:=head_iff h1
  rw [wE]
  by_cases c1:e.op=1
  ·rw [if_pos c1]
   refine vW_cons ?_ vW_nil
   obtain ⟨n,hn⟩:∃ n:Nat,e.n_=n:=⟨e.n_.toNat,by have:=i2 c1;omega⟩
   have hn2:=i2 c1
   have:=numI_numS (n:=n) (by omega)
   show decide (0≤numI (numS e.n_))=true
   rw [hn,this];simp
  rw [if_neg c1]
  by_cases c2:e.op=2
  ·rw [if_pos c2]
   exact vW_cons (i4 (.inl c2)) vW_nil
  rw [if_neg c2]
  by_cases c3:e.op=13
  ·rw [if_pos c3]
   refine vW_cons (i4 (.inr c3)) (vW_cons rfl (vW_app (aW_valid λx hx=>?_) (vW_cons rfl vW_nil)))
   obtain ⟨k,hk,rfl⟩:=List.mem_map.1 hx
   exact wE_valid (h2 k hk)
  rw [if_neg c3]
  by_cases c4:e.op=11∨e.op=12
  ·rw [if_pos c4]
   obtain ⟨a,ha⟩:=i7 c4
   have hk:kid e 0=a:=by unfold kid;rw [ha];rfl
   rw [hk]
   exact vW_cons sg_valid (brW_valid (wE_valid (h2 a (by rw [ha];simp))))
  ·rw [if_neg c4]
   rw [inB_iff] at i1
   obtain ⟨a,b,ha⟩:=i8 (by omega)
   have hk:kid e 0=a:=by unfold kid;rw [ha];rfl
   have hk1:kid e 1=b:=by unfold kid;rw [ha];rfl
   rw [hk,hk1]
   exact vW_app (brW_valid (wE_valid (h2 a (by rw [ha];simp)))) (vW_cons sg_valid (brW_valid (wE_valid (h2 b (by rw [ha];simp)))))
theorem cat_ex {s t:Str} (h:s.b.length+t.b.length≤100000000):∃ u,catS s t=some u∧u.b=s.b++t.b:=⟨⟨s.b++t.b,by simp;omega⟩,catS_some.2 ⟨by omega,rfl⟩,rfl⟩
theorem wE_txt_len {d:Nat} {e:Expr_} (h:formE d e=true):(txt (wE d e)).length≤30*partsE e:=by
 have h1:=txt_len _ (wE_valid h)
 have h2:=wE_len h
 omega
theorem br_txt {ws:List Word_} (h:ws≠[]):txt (brW true ws)=[40,32]++txt ws++[32,41]:=by
 show txt (pL::(ws++[pR]))=_
 rw [txt_cons (by simp),txt_app h (by simp),txt_one]
 simp [pL,pR,mkS]
theorem br_txt_len (b:Bool) {ws:List Word_} (h:ws≠[]):(txt (brW b ws)).length≤(txt ws).length+4:=by
 cases b with
 | true=>rw [br_txt h];simp
 | false=>show (txt ws).length≤_;omega
theorem sg_len (op:Int):(sgS op).b.length=1:=by
 unfold sgS
 repeat' split
 all_goals rfl
theorem text_ok:∀ (d:Nat) (e:Expr_) (need:Int),formE d e=true→partsE e≤1000→∃ T,spec_l2Text e need=some T∧T.b=txt (brW (decide (lvI e.op<need)) (wE d e)):=by
 intro d
 induction d with
 | zero=>intro e need h;rw [formE] at h;cases h
 | succ d ih =>
  intro e need h hp
  have hlen:=wE_txt_len h
  have hne:=wE_ne h
  obtain ⟨h1,h2⟩:=form_kids h
  obtain ⟨i1,i2,_,i4,_,i6,i7,i8,i9⟩:=head_iff h1
  have hpe:=partsE_eq e
  have core:∃ T:Str,T.b=txt (wE (d+1) e)∧spec_l2Text e need=(if decide (lvI e.op<need) then Option.bind (catS (mkS [40,32]) T) λx0_1=>Option.bind (catS x0_1 (mkS [32,41])) λx0_2=>some x0_2 else some T):=by
   rw [spec_l2Text,level_ok]
   simp only [Option.bind_some]
   rw [wE]
   by_cases c1:e.op=1
   ·obtain ⟨n, hn⟩ : ∃ n : Nat, e.n_ = n := ⟨e.n_.toNat, by have := i2 c1; omega⟩
    have hn2:=i2 c1
    refine ⟨numS e.n_,?_,?_⟩
    ·rw [if_pos c1,txt_one]
    ·have e1:decide (e.op=1)=true:=decide_eq_true c1
     rw [e1,hn,l30Dec_ok (by omega)];rfl
   have e1:decide (e.op=1)=false:=decide_eq_false c1
   by_cases c2:e.op=2
   ·refine ⟨e.name,?_,?_⟩
    ·rw [if_neg c1,if_pos c2,txt_one]
    ·have e2:decide (e.op=2)=true:=decide_eq_true c2
     rw [e1,e2];rfl
   have e2:decide (e.op=2)=false:=decide_eq_false c2
   rw [e1,e2,if_neg c1,if_neg c2]
   by_cases c3:e.op=13
   ·have e3:decide (e.op=13)=true:=decide_eq_true c3
    rw [e3,if_pos c3]
    have h40:(mkS [32,40]).b.length=2:=rfl
    have h41:(mkS [32,41]).b.length=2:=rfl
    have h44:(mkS [32,44]).b.length=2:=rfl
    have h32:(mkS [32]).b.length=1:=rfl
    have hnm:e.name.b.length≤4:=by
     have:=i4 (.inr c3)
     unfold nameB at this
     simp only [Bool.and_eq_true,decide_eq_true_iff] at this
     exact this.1.2
    obtain ⟨u,u1,u2⟩:=cat_ex (s:=e.name) (t:=mkS [32,40]) (by omega)
    have hu:=congrArg List.length u2
    rw [List.length_append,h40] at hu
    simp only [Bool.false_eq_true,if_false,if_true,u1,Option.bind_some]
    have hpk:=hp
    rcases forN_list (xs := e.kids) (body := (fun (i5_1 : Int) (xs5_1 : Str) => (Option.bind (if decide (0 < i5_1) then Option.bind (catS xs5_1 (mkS [32, 44])) fun x6_1 => some x6_1 else some xs5_1 : Option (Str)) fun s5_1 => Option.bind (catS s5_1 (mkS [32])) fun x5_1 => Option.bind (getI e.kids i5_1) fun x5_2 => Option.bind (spec_l2Text x5_2 1) fun r5_1 => Option.bind (catS x5_1 r5_1) fun x5_3 => some (.inl x5_3) : Option ((Str) ⊕ (Empty))))) (s := u) (fun l s => s.b = txt (⟨1, e.name⟩ :: pL :: aW (l.map (wE d))) ∧ s.b.length ≤ 6 + 40 * partsL l) (fun _ => False) ⟨by rw [u2]; show _ = txt [⟨1, e.name⟩, pL]; rw [txt_cons (by simp), txt_one]; rfl, by omega⟩ (fun l x r s hx hI => .inl (by
     obtain ⟨hI,hI2⟩:=hI
     have hfx:=h2 x (by rw [hx];simp)
     have hpx:=parts_mem (k:=x) (l:=e.kids) (by rw [hx];simp)
     have hpl:partsL e.kids=partsL l+(partsE x+partsL r):=by rw [hx,partsL_app,partsL_cons]
     have hps:partsL (l++[x])=partsL l+partsE x:=by rw [partsL_app,partsL_cons,partsL_nil];omega
     obtain ⟨T,t1,t2⟩:=ih x 1 hfx (by omega)
     have hlv:decide (lvI x.op<1)=false:=by
      have h0:headB x=true:=by
       cases d with
       | zero=>rw [formE] at hfx;cases hfx
       | succ d=>exact (form_kids hfx).1
      rcases op_lv (head_iff h0).1 with h | h | h<;>(apply decide_eq_false;omega)
     rw [hlv] at t2
     have t2:T.b=txt (wE d x):=t2
     have hlx:=wE_txt_len hfx
     have hpx1:1≤partsE x:=by rw [partsE_eq];omega
     have hg:getI e.kids (l.length:Int)=some x:=by rw [hx,getI_mid]
     by_cases hl0:l=[]
     ·subst hl0
      have e0:decide (0<(([]:List Expr_).length:Int))=false:=rfl
      obtain ⟨y,y1,y2⟩:=cat_ex (s:=s) (t:=mkS [32]) (by omega)
      have hy:=congrArg List.length y2
      rw [List.length_append,h32] at hy
      obtain ⟨z,z1,z2⟩:=cat_ex (s:=y) (t:=T) (by rw [t2];omega)
      have hz:=congrArg List.length z2
      rw [List.length_append,t2] at hz
      refine ⟨z,?_,?_,by rw [hps];omega⟩
      ·simp only [e0,Bool.false_eq_true,if_false,y1,hg,t1,z1,Option.bind_some]
      ·have e4 : aW (([] ++ [x]).map (wE d)) = wE d x := by simp [aW]
       rw [z2,y2,hI,t2,e4]
       show txt [⟨1,e.name⟩,pL]++(mkS [32]).b++_=txt ([⟨1,e.name⟩,pL]++wE d x)
       rw [txt_app (by simp) (wE_ne hfx)]
       simp [mkS]
     ·have e0 : decide (0 < (l.length : Int)) = true := by have := List.length_pos_iff.2 hl0; simp; omega
      have hl1:l.map (wE d)≠[]:=by simpa using hl0
      obtain ⟨q,q1,q2⟩:=cat_ex (s:=s) (t:=mkS [32,44]) (by omega)
      have hq:=congrArg List.length q2
      rw [List.length_append,h44] at hq
      obtain ⟨y,y1,y2⟩:=cat_ex (s:=q) (t:=mkS [32]) (by omega)
      have hy:=congrArg List.length y2
      rw [List.length_append,h32] at hy
      obtain ⟨z,z1,z2⟩:=cat_ex (s:=y) (t:=T) (by rw [t2];omega)
      have hz:=congrArg List.length z2
      rw [List.length_append,t2] at hz
      refine ⟨z,?_,?_,by rw [hps];omega⟩
      ·simp only [e0,if_true,q1,y1,hg,t1,z1,Option.bind_some]
      ·rw [z2,y2,q2,hI,t2,List.map_append,List.map_cons,List.map_nil,aW_snoc,if_neg hl1]
       show _=txt ((⟨1,e.name⟩::pL::aW (l.map (wE d)))++cM::wE d x)
       rw [txt_app (by simp) (by simp),txt_cons (w:=cM) (wE_ne hfx)]
       simp [mkS,cM])) with ⟨s,h3,h4,h5⟩ | ⟨y,_,h4⟩
    ·obtain ⟨z, z1, z2⟩ := cat_ex (s := s) (t := mkS [32, 41]) (by omega)
     refine ⟨z,?_,?_⟩
     ·rw [z2,h4]
      show _=txt ((⟨1,e.name⟩::pL::aW (e.kids.map (wE d)))++[pR])
      rw [txt_app (by simp) (by simp),txt_one]
      simp [mkS,pR]
     ·rw [h3]
      simp only [Option.bind_some,Sum.elim_inl,z1]
    ·exact h4.elim
   have e3:decide (e.op=13)=false:=decide_eq_false c3
   rw [e3,if_neg c3]
   by_cases c4:e.op=11∨e.op=12
   ·have hlv : lvI e.op = 5 := by rcases c4 with h | h <;> rw [h] <;> rfl
    obtain ⟨a,ha⟩:=i7 c4
    have hk:kid e 0=a:=by unfold kid;rw [ha];rfl
    have hg:getI e.kids 0=some a:=by rw [ha];rfl
    have hfa:=h2 a (by rw [ha];simp)
    have hpa:partsE a≤1000:=by have:=parts_mem (k:=a) (l:=e.kids) (by rw [ha];simp);omega
    obtain ⟨T,t1,t2⟩:=ih a 5 hfa hpa
    have hla:=wE_txt_len hfa
    have hlb:=br_txt_len (decide (lvI a.op<5)) (wE_ne hfa)
    have hsg:=sg_len e.op
    have h32:(mkS [32]).b.length=1:=rfl
    obtain ⟨u,u1,u2⟩:=cat_ex (s:=sgS e.op) (t:=mkS [32]) (by omega)
    have hu:=congrArg List.length u2
    rw [List.length_append,h32,hsg] at hu
    obtain ⟨v,v1,v2⟩:=cat_ex (s:=u) (t:=T) (by rw [t2];omega)
    refine ⟨v,?_,?_⟩
    ·rw [if_pos c4,hk,txt_cons (brW_ne (wE_ne hfa)),v2,u2,t2]
     simp [sgW,mkS]
    ·have e5:decide (lvI e.op=5)=true:=decide_eq_true hlv
     simp only [Bool.false_eq_true,if_false,e5,if_true,hg,signS_ok (show 3≤e.op∧e.op≤12 by omega),u1,t1,v1,Option.bind_some]
   ·rw [inB_iff] at i1
    have hlv:lvI e.op=1∨lvI e.op=2∨lvI e.op=3∨lvI e.op=4:=by
     rcases op_lv (inB_iff.2 i1) with h | h | h<;>omega
    obtain ⟨a,b,ha⟩:=i8 (by omega)
    have hk:kid e 0=a:=by unfold kid;rw [ha];rfl
    have hk1:kid e 1=b:=by unfold kid;rw [ha];rfl
    have hg:getI e.kids 0=some a:=by rw [ha];rfl
    have hg1:getI e.kids 1=some b:=by rw [ha];rfl
    have hfa:=h2 a (by rw [ha];simp)
    have hfb:=h2 b (by rw [ha];simp)
    have hpa:partsE a≤1000:=by have:=parts_mem (k:=a) (l:=e.kids) (by rw [ha];simp);omega
    have hpb:partsE b≤1000:=by have:=parts_mem (k:=b) (l:=e.kids) (by rw [ha];simp);omega
    have ew:w64 (lvI e.op+1)=lvI e.op+1:=w64_id (by omega) (by omega)
    have eb:decide (lvI b.op<lvI e.op+1)=decide (lvI b.op≤lvI e.op):=by rw [decide_eq_decide];omega
    obtain ⟨T,t1,t2⟩:=ih a (lvI e.op) hfa hpa
    obtain ⟨T2,s1,s2⟩:=ih b (lvI e.op+1) hfb hpb
    rw [eb] at s2
    have hla:=wE_txt_len hfa
    have hlb:=br_txt_len (decide (lvI a.op<lvI e.op)) (wE_ne hfa)
    have hla2:=wE_txt_len hfb
    have hlb2:=br_txt_len (decide (lvI b.op≤lvI e.op)) (wE_ne hfb)
    have hsg:=sg_len e.op
    have h32:(mkS [32]).b.length=1:=rfl
    obtain ⟨u,u1,u2⟩:=cat_ex (s:=T) (t:=mkS [32]) (by rw [t2,h32];omega)
    have hu:=congrArg List.length u2
    rw [List.length_append,h32,t2] at hu
    obtain ⟨v,v1,v2⟩:=cat_ex (s:=u) (t:=sgS e.op) (by omega)
    have hv:=congrArg List.length v2
    rw [List.length_append,hsg] at hv
    obtain ⟨x,x1,x2⟩:=cat_ex (s:=v) (t:=mkS [32]) (by omega)
    have hx:=congrArg List.length x2
    rw [List.length_append,h32] at hx
    obtain ⟨y,y1,y2⟩:=cat_ex (s:=x) (t:=T2) (by rw [s2];omega)
    refine ⟨y,?_,?_⟩
    ·rw [if_neg c4, hk, hk1, txt_app (brW_ne (wE_ne hfa)) (by simp), txt_cons (brW_ne (wE_ne hfb)), y2, x2, v2, u2, t2, s2]
     simp [sgW,mkS]
    ·have e5 : decide (lvI e.op = 5) = false := decide_eq_false (by omega)
     simp only [Bool.false_eq_true,if_false,e5,hg,hg1,signS_ok (show 3≤e.op∧e.op≤12 by omega),ew,u1,t1,v1,x1,s1,y1,Option.bind_some]
  obtain ⟨T,t1,t2⟩:=core
  rw [t2]
  cases hb:decide (lvI e.op<need) with
  | false=>exact ⟨T,rfl,t1⟩
  | true =>
   have h40:(mkS [40,32]).b.length=2:=rfl
   have h41:(mkS [32,41]).b.length=2:=rfl
   obtain ⟨u,u1,u2⟩:=cat_ex (s:=mkS [40,32]) (t:=T) (by rw [t1,h40];omega)
   have hu:=congrArg List.length u2
   rw [List.length_append,h40,t1] at hu
   obtain ⟨v,v1,v2⟩:=cat_ex (s:=u) (t:=mkS [32,41]) (by omega)
   refine ⟨v,?_,?_⟩
   ·rw [if_pos rfl,u1,Option.bind_some,v1];rfl
   ·rw [v2,u2,t1,br_txt hne];rfl
end Prg
end Go.Wk
namespace Go.Wk
open Go
namespace Prg
set_option maxRecDepth 10000
def joinV (ws:List Word_):Str × Bool:=if ws.length≤600∧(txt ws).length≤3000 then (toS (txt ws),true) else (mkS [],false)
theorem join_ok (ws:List Word_) (h:vW ws):impl_JoinWords ws=some (joinV ws):=by
 unfold impl_JoinWords
 by_cases h6:ws.length≤600
 ·have e1 : decide (600 < (ws.length : Int)) = false := by simp; omega
  rw [e1]
  simp only [Bool.false_eq_true,if_false]
  rw [makeM_ok (by omega) (by omega),Option.bind_some,show ((ws.length:Int)).toNat=ws.length by omega]
  rw [forN_map (xs:=ws) (body:=(λ(i1_1:Int) (xs1_1:(List Str))=>(Option.bind (getI ws i1_1) λx1_1=>Option.bind (impl_WordValid x1_1) λr1_1=>if !(r1_1) then some (.inr ((mkS []),false)) else Option.bind (getI xs1_1 i1_1) λx1_2=>some (.inl (xs1_1.set (i1_1).toNat x1_1.text)):Option (((List Str)) ⊕ (Str × Bool))))) (λw=>w.text) (λl x r ys he hl=>by
   have hx:=h x (by rw [he];simp)
   have hg:getI ws (l.length:Int)=some x:=by rw [he,getI_mid]
   rw [hg,Option.bind_some,valid_ok,hx,Option.bind_some,show ((l.length:Int)).toNat=l.length by omega,getI_nat,List.getElem?_eq_getElem hl];rfl)]
  have hb:=txt_len ws h
  have hm:(ws.map (λw=>w.text)).map (·.b)=ws.map (λw=>w.text.b):=by simp
  have hj:strings_Join (ws.map (λw=>w.text)) (mkS [32])=some (toS (txt ws)):=by
   unfold strings_Join joinM
   have h1:(Lib.join ((ws.map (λw=>w.text)).map (·.b)) (mkS [32]).b).length≤140737488355328:=by
    rw [hm];show (txt ws).length≤_;omega
   rw [dif_pos h1,if_pos (by simp;omega)]
   refine congrArg some (Str.ext' ?_)
   rw [toS_b (by omega)]
   show Lib.join ((ws.map (λw=>w.text)).map (·.b)) [32]=txt ws
   rw [hm];rfl
  simp only [Option.bind_some,Sum.elim_inl,hj]
  have hl:(toS (txt ws)).b.length=(txt ws).length:=by rw [toS_b (by omega)]
  rw [hl]
  by_cases h7:(txt ws).length≤3000
  ·have hv:joinV ws=(toS (txt ws),true):=if_pos ⟨h6,h7⟩
   rw [hv,if_neg (by simp;omega)]
  ·have hv:joinV ws=(mkS [],false):=if_neg λh'=>h7 h'.2
   rw [hv,if_pos (decide_eq_true (by omega))]
 ·have hv:joinV ws=(mkS [],false):=if_neg λh'=>h6 h'.1
  rw [hv,if_pos (decide_eq_true (by omega))]
def textV (e:Expr_):Str × Bool:=if validB e then (toS (txt (wE 6 e)),true) else (mkS [],false)
theorem valid_form {e:Expr_} (h:validB e=true):formE 6 e=true∧partsE e≤30:=by
 unfold validB at h
 rw [Bool.and_eq_true,decide_eq_true_iff] at h
 exact h
theorem lv_pos {e:Expr_} {d:Nat} (h:formE d e=true):1≤lvI e.op:=by
 have h0:headB e=true:=by
  cases d with
  | zero=>rw [formE] at h;cases h
  | succ d=>exact (form_kids h).1
 rcases op_lv (head_iff h0).1 with h | h | h<;>omega
theorem cut_txt {ws:List Word_} (h:vW ws) (h1:ws.length≤600) (h2:(txt ws).length≤3000):cutR (toS (txt ws))=some ws:=by
 unfold cutR
 rw [toS_b (by omega),if_pos h2,tok_txt ws h]
 simp [h1]
theorem sameSE:∀ e:Expr_,spec_SameExpr e e=some true:=by
 intro e
 induction e using exprInd with
 | h e ih =>
  rw [spec_SameExpr]
  simp only [ne_eq,not_true_eq_false,decide_false,Bool.false_eq_true,if_false,Option.bind_some]
  rw [forN_any (xs:=e.kids) (body:=(λ(i1_1:Int) (xs1_1:Unit)=>(Option.bind (getI e.kids i1_1) λx1_1=>Option.bind (getI e.kids i1_1) λx1_2=>Option.bind (spec_SameExpr x1_1 x1_2) λr1_1=>if !(r1_1) then some (.inr false) else some (.inl ()):Option ((Unit) ⊕ (Bool))))) (λ_=>false) false (λl x r he=>by
   rw [he,getI_mid,Option.bind_some,Option.bind_some,ih x (by rw [he];simp)];rfl)]
  have:e.kids.any (λ_=>false)=false:=by simp
  rw [this];rfl
end Prg
end Go.Wk
namespace Go.Wk
open Go
namespace Prg
set_option maxRecDepth 10000
def stopC (need:Int) (r:List Word_):Prop:=(∀ m:Int,need≤m→m≤4→opT m r=0)∧isT r (mkS [40])=false
def headJ:Job→Prop
 | .E _ ws _ _=>vW ws→isT ws (mkS [41])=false
 | .L _ _ _ _ _=>True
 | .A _ _ _=>True
 | .M _ _ _ _=>True
def ClaimE (d:Nat) (e:Expr_):Prop:=∀ (need:Int) (r:List Word_),1≤need→need≤5→stopC need r→Rd (.E need (brW (decide (lvI e.op<need)) (wE d e)++r) e r)
def ClaimC (d:Nat) (e:Expr_):Prop:=∀ (lv:Int) (ws:List Word_) (e':Expr_) (r:List Word_),(lv=1∨lv=2∨lv=3∨lv=4)→stopC (lv+1) ws→Rd (.L lv e ws e' r)→Rd (.E lv (brW (decide (lvI e.op<lv)) (wE d e)++ws) e' r)
end Prg
end Go.Wk
namespace Go.Wk
open Go
namespace Prg
set_option maxRecDepth 10000
def Dr {A:Type} (o:Option A) (Q:A→Prop):Prop:=∃ a,o=some a∧Q a
theorem Dr.some {A:Type} {a:A} {Q:A→Prop} (h:Q a):Dr (some a) Q:=⟨a,rfl,h⟩
theorem Dr.bind {A B:Type} {o:Option A} {f:A→Option B} {P:A→Prop} {Q:B→Prop} (h:Dr o P) (k:∀ a,P a→Dr (f a) Q):Dr (Option.bind o f) Q:=by
 obtain ⟨a,h1,h2⟩:=h
 obtain ⟨b,h3,h4⟩:=k a h2
 exact ⟨b,bindt h1 h3,h4⟩
theorem Dr.ite {A:Type} {c:Bool} {x y:Option A} {Q:A→Prop} (h1:c=true→Dr x Q) (h2:c=false→Dr y Q):Dr (if c=true then x else y) Q:=by
 cases c
 ·exact h2 rfl
 ·exact h1 rfl
theorem Dr.mono {A:Type} {o:Option A} {P Q:A→Prop} (h:Dr o P) (k:∀ a,P a→Q a):Dr o Q:=by
 obtain ⟨a,h1,h2⟩:=h
 exact ⟨a,h1,k a h2⟩
theorem Dr.get {A:Type} {xs:List A} {i:Int} (h0:0≤i) (h1:i<(xs.length:Int)):Dr (getI xs i) (λx=>x∈xs):=by
 obtain ⟨x,hx,_,hm⟩:=getI_in h0 h1
 exact ⟨x,hx,hm⟩
theorem Dr.app {A:Type} {xs ys:List A} (h:xs.length+ys.length≤2147483648):Dr (appM xs ys) (λl=>l=xs++ys):=⟨_,appM_ok h,rfl⟩
theorem Dr.forN {S:Type} {body:Int→S→Option (S ⊕ Empty)} {B:Type} {f:S ⊕ Empty→Option B} {Q:B→Prop} (I:Int→S→Prop) {k:Nat} {s:S} (h0:I 0 s)
  (h:∀ j s,0≤j→j<(k:Int)→I j s→Dr (body j s) (λr=>∀ t,r=.inl t→I (j+1) t)) (hf:∀ s,I k s→Dr (f (.inl s)) Q):Dr (Option.bind (forN body k 0 s) f) Q:=by
 rcases forN_law (body:=body) (k:=k) (i:=0) (s:=s) I (λ_=>False) h0 (λj s h1 h2 hs=>by
  obtain ⟨r,h3,h4⟩:=h j s h1 (by simpa using h2) hs
  cases r with
  | inl t=>exact .inl ⟨t,h3,h4 t rfl⟩
  | inr e=>exact e.elim) with ⟨t,h3,h4⟩ | ⟨e,_,h4⟩
 ·obtain ⟨b, h5, h6⟩ := hf t (by simpa using h4)
  exact ⟨b,bindt h3 h5,h6⟩
 ·exact h4.elim
theorem Dr.loop {S X:Type} {body:S→Option (S ⊕ X)} {Q:X→Prop} (I:S→Prop) (μ:S→Nat):∀ {s:S},I s→(∀ s,I s→Dr (body s) (λr=>(∀ t,r=.inl t→I t∧μ t<μ s)∧∀ x,r=.inr x→Q x))→Dr (loopM body s) Q:=by
 intro s hs h
 generalize hn:μ s=n
 induction n using Nat.strongRecOn generalizing s with
 | _ n ih =>
  obtain ⟨r,h1,h2,h3⟩:=h s hs
  cases r with
  | inl t =>
   have h4:=h2 t rfl
   obtain ⟨x,h5,h6⟩:=ih (μ t) (by omega) h4.1 rfl
   exact ⟨x,by rw [loopM_inl h1];exact h5,h6⟩
  | inr x=>exact ⟨x,loopM_inr h1,h3 x rfl⟩
theorem xor_nn (a b:Int) (ha:0≤a∧a<1073741824) (hb:0≤b∧b<1073741824):0≤bitsK IntKind.i64 (· ^^^ ·) a b:=by
 unfold bitsK
 have h:(BitVec.ofInt 64 a ^^^ BitVec.ofInt 64 b).toNat<2 ^ 30:=by
  rw [BitVec.toNat_xor]
  refine Nat.xor_lt_two_pow ?_ ?_<;>rw [BitVec.toNat_ofInt]<;>omega
 show 0≤IntKind.i64.wrap ((BitVec.ofInt 64 a ^^^ BitVec.ofInt 64 b).toNat:Int)
 rw [IntKind.wrap_i64]
 omega
theorem tmod_in {a n:Int} (ha:0≤a) (hn:0<n):0≤a.tmod n∧a.tmod n<n:=⟨Int.tmod_nonneg _ ha,Int.tmod_lt_of_pos _ hn⟩
theorem pick_ok (b:List UInt8) (hb:b.length≤2000) (p n:Int) (h0:0≤p) (h1:p≤1000000):∃ v,pspec_l30Rd__pick ⟨b,p⟩ n=some (v,⟨b,p+1⟩)∧0≤v∧(0<n→v<n):=by
 unfold pspec_l30Rd__pick
 have e1:w64 (p+1)=p+1:=w64_id (by omega) (by omega)
 have e2:w64 (p+1 - 1)=p:=by rw [w64_id (by omega) (by omega)];omega
 simp only [e1,e2]
 by_cases hn:n<1
 ·simp only [hn,decide_true,if_true,Option.bind_some]
  exact ⟨0,rfl,by omega,by omega⟩
 by_cases hl:b.length=0
 ·simp only [hn,hl,decide_false,Bool.false_eq_true,if_false,Option.bind_some,Int.natCast_zero,decide_true,if_true]
  exact ⟨0,rfl,by omega,by omega⟩
 have hbl:¬ ((b.length:Int)=0):=by omega
 have hn0:¬ n=0:=by omega
 simp only [hn,hbl,decide_false,Bool.false_eq_true,if_false,Option.bind_some]
 by_cases hk:p<(b.length:Int)
 ·obtain ⟨x,hx,_⟩:=getI_in (xs:=b) h0 hk
  simp only [hk,decide_true,if_true,hx,Option.bind_some,remM,hn0,if_false]
  have:=tmod_in (a:=((x.toNat:Nat):Int)) (n:=n) (by omega) (by omega)
  exact ⟨_,rfl,this.1,λ_=>this.2⟩
 ·have hpl : (0 : Int) < (b.length : Int) := by omega
  have e3:w64 (w64 (p*7)+3)=p*7+3:=by rw [w64_id (n:=p*7) (by omega) (by omega),w64_id (by omega) (by omega)]
  obtain ⟨x,hx,_⟩:=getI_in (xs:=b) (tmod_in h0 hpl).1 (tmod_in h0 hpl).2
  obtain ⟨y,hy,_⟩:=getI_in (xs:=b) (tmod_in (a:=p*7+3) (by omega) hpl).1 (tmod_in (a:=p*7+3) (by omega) hpl).2
  have hd:0≤p.tdiv (b.length:Int)∧p.tdiv (b.length:Int)≤p:=⟨Int.tdiv_nonneg h0 (by omega),Int.tdiv_le_self _ h0⟩
  have e4:w64 (p.tdiv (b.length:Int))=p.tdiv (b.length:Int):=w64_id (by omega) (by omega)
  have hx8:(x.toNat:Int)<256:=by have:=x.toNat_lt;omega
  have hy8:(y.toNat:Int)<256:=by have:=y.toNat_lt;omega
  have hz:∃ z:Int,w64 (w64 (w64 (w64 ((x.toNat:Int)*131)+w64 ((y.toNat:Int)*1117))+w64 (p*29))+w64 (p.tdiv (b.length:Int)*53))=z∧0≤z∧z<1073741824:=by
   refine ⟨_,rfl,?_⟩
   rw [w64_id (n := (x.toNat : Int) * 131) (by omega) (by omega), w64_id (n := (y.toNat : Int) * 1117) (by omega) (by omega), w64_id (n := p * 29) (by omega) (by omega),
    w64_id (n:=p.tdiv (b.length:Int)*53) (by omega) (by omega),w64_id (n:=(x.toNat:Int)*131+(y.toNat:Int)*1117) (by omega) (by omega),
    w64_id (n:=(x.toNat:Int)*131+(y.toNat:Int)*1117+p*29) (by omega) (by omega),w64_id (by omega) (by omega)]
   omega
  obtain ⟨z,hz,hz0,hz1⟩:=hz
  have hq:0≤z.tdiv 64∧z.tdiv 64≤z:=⟨Int.tdiv_nonneg hz0 (by omega),Int.tdiv_le_self _ hz0⟩
  have e5:w64 (z.tdiv 64)=z.tdiv 64:=w64_id (by omega) (by omega)
  simp only [hk,decide_false,Bool.false_eq_true,if_false,remM,quoM,hbl,hn0,Option.bind_some,e3,hx,hy,e4,hz,e5]
  have:=tmod_in (xor_nn z (z.tdiv 64) ⟨hz0,hz1⟩ ⟨hq.1,by omega⟩) (show 0<n by omega)
  exact ⟨_,rfl,this.1,λ_=>this.2⟩
theorem num_ok (b:List UInt8) (hb:b.length≤2000) (p:Int) (l:List Int) (hl:0<l.length) (h0:0≤p) (h1:p≤1000000):∃ v,pspec_l30Rd__num ⟨b,p⟩ l=some (v,⟨b,p+1⟩)∧v∈l:=by
 obtain ⟨v,h2,h3,h4⟩:=pick_ok b hb p (l.length:Int) h0 h1
 obtain ⟨x,hx,_,hm⟩:=getI_in (xs:=l) h3 (h4 (by omega))
 exact ⟨x,bindt h2 (bindt hx rfl),hm⟩
section
variable {b:List UInt8} (hb:b.length≤2000) {p:Int} {B:Type} {Q:B→Prop}
theorem pk {n:Int} {f:Int × l30Rd→Option B} (hb:b.length≤2000) (h0:0≤p) (h1:p≤1000000) (k:∀ v,0≤v→(0<n→v<n)→Dr (f (v,⟨b,p+1⟩)) Q):Dr (Option.bind (pspec_l30Rd__pick ⟨b,p⟩ n) f) Q:=by
 obtain ⟨v,h2,h3,h4⟩:=pick_ok b hb p n h0 h1
 obtain ⟨c,h5,h6⟩:=k v h3 h4
 exact ⟨c,bindt h2 h5,h6⟩
theorem nm {l:List Int} {f:Int × l30Rd→Option B} (hb:b.length≤2000) (hl:0<l.length) (h0:0≤p) (h1:p≤1000000) (k:∀ v,v∈l→Dr (f (v,⟨b,p+1⟩)) Q):Dr (Option.bind (pspec_l30Rd__num ⟨b,p⟩ l) f) Q:=by
 obtain ⟨v,h2,h3⟩:=num_ok b hb p l hl h0 h1
 obtain ⟨c,h5,h6⟩:=k v h3
 exact ⟨c,bindt h2 h5,h6⟩
theorem gtx {A:Type} {xs:List A} {i:Int} {f:A→Option B} (h0:0≤i) (h1:i<(xs.length:Int)) (k:∀ x,x∈xs→Dr (f x) Q):Dr (Option.bind (getI xs i) f) Q:=Dr.bind (Dr.get h0 h1) k
theorem ap {A:Type} {xs ys:List A} {f:List A→Option B} (h:xs.length+ys.length≤2147483648) (k:Dr (f (xs++ys)) Q):Dr (Option.bind (appM xs ys) f) Q:=Dr.bind (Dr.app h) λ_ e=>by subst e;exact k
def DrA {A:Type} (o:Option (A × l30Rd)) (b:List UInt8) (lo hi:Int) (P:A→Prop):Prop:=Dr o (λr=>(r.2.b=b∧lo≤r.2.p∧r.2.p≤hi)∧P r.1)
theorem DrA.bind {A:Type} {o:Option (A × l30Rd)} {lo hi:Int} {P:A→Prop} {f:A × l30Rd→Option B} (h:DrA o b lo hi P) (k:∀ v q,lo≤q→q≤hi→P v→Dr (f (v,⟨b,q⟩)) Q):Dr (Option.bind o f) Q:=by
 obtain ⟨⟨v,⟨b',q⟩⟩,h1,⟨h2,h3,h4⟩,h5⟩:=h
 simp only at h2 h3 h4 h5
 subst h2
 obtain ⟨c,h6,h7⟩:=k v q h3 h4 h5
 exact ⟨c,bindt h1 h6,h7⟩
theorem DrA.some {A:Type} {v:A} {q lo hi:Int} {P:A→Prop} (h1:lo≤q) (h2:q≤hi) (h3:P v):DrA (some (v,(⟨b,q⟩:l30Rd))) b lo hi P:=⟨_,rfl,⟨rfl,h1,h2⟩,h3⟩
end
theorem open_ok (code:List UInt8):∃ b,spec_l30Open code=Option.some ⟨b,0⟩∧b.length≤2000:=by
 unfold spec_l30Open
 by_cases h:(2000:Int)<(code.length:Int)
 ·simp only [h,decide_true,if_true]
  have:subM code 0 2000=Option.some (code.take 2000):=by
   unfold subM
   rw [if_pos (by omega)]
   simp
  rw [this]
  exact ⟨_,rfl,by rw [List.length_take];omega⟩
 ·simp only [h,decide_false,Bool.false_eq_true,if_false,Option.bind_some]
  exact ⟨_,rfl,by omega⟩
theorem DrF {A:Type} {b:List UInt8} {lo hi:Int} {P:A→Prop} {r:A × l30Rd} (h1:r.2.b=b) (h2:lo≤r.2.p) (h3:r.2.p≤hi) (h4:P r.1):Dr (some r) (λr=>(r.2.b=b∧lo≤r.2.p∧r.2.p≤hi)∧P r.1):=⟨r,rfl,⟨h1,h2,h3⟩,h4⟩
theorem form_mono:∀ {d:Nat} {e:Expr_},formE d e=true→formE (d+1) e=true
 | 0,e,h=>by rw [formE] at h;cases h
 | d+1,e,h=>by
  obtain ⟨h1,h2⟩:=form_kids h
  rw [formE,Bool.and_eq_true,List.all_eq_true]
  exact ⟨h1,λk hk=>form_mono (h2 k hk)⟩
theorem form_le {d e2:Nat} {e:Expr_} (h:d≤e2) (hf:formE d e=true):formE e2 e=true:=by
 obtain ⟨k,rfl⟩:∃ k,e2=d+k:=⟨e2 - d,by omega⟩
 clear h
 induction k with
 | zero=>exact hf
 | succ k ih=>exact form_mono ih
theorem leaf_num {n:Int} (h:0≤n∧n≤255):formE 1 ⟨1,n,mkS [],[]⟩=true∧partsE ⟨1,n,mkS [],[]⟩=1:=by
 constructor
 ·rw [formE]
  have:inB n 0 255=true:=inB_iff.2 h
  simp [headB,kidsI,inB_iff,h]
 ·rw [partsE_eq];show 1+partsL []=1;rw [partsL_nil]
theorem leaf_name {s:Str} (h:nameB s=true):formE 1 ⟨2,0,s,[]⟩=true∧partsE ⟨2,0,s,[]⟩=1:=by
 constructor
 ·rw [formE]
  simp [headB,kidsI,inB_iff,h]
 ·rw [partsE_eq];show 1+partsL []=1;rw [partsL_nil]
theorem of_ok (b:List UInt8) (hb:b.length≤2000) (p:Int) (l:List Str) (hl:0<l.length) (h0:0≤p) (h1:p≤1000000):∃ v,pspec_l30Rd__of ⟨b,p⟩ l=some (v,⟨b,p+1⟩)∧v∈l:=by
 obtain ⟨v,h2,h3,h4⟩:=pick_ok b hb p (l.length:Int) h0 h1
 obtain ⟨x,hx,_,hm⟩:=getI_in (xs:=l) h3 (h4 (by omega))
 exact ⟨x,bindt h2 (bindt hx rfl),hm⟩
theorem ofx {b:List UInt8} {p:Int} {B:Type} {Q:B→Prop} {l:List Str} {f:Str × l30Rd→Option B} (hb:b.length≤2000) (hl:0<l.length) (h0:0≤p) (h1:p≤1000000) (k:∀ v,v∈l→Dr (f (v,⟨b,p+1⟩)) Q):Dr (Option.bind (pspec_l30Rd__of ⟨b,p⟩ l) f) Q:=by
 obtain ⟨v,h2,h3⟩:=of_ok b hb p l hl h0 h1
 obtain ⟨c,h5,h6⟩:=k v h3
 exact ⟨c,bindt h2 h5,h6⟩
theorem leaf_dr {b:List UInt8} (hb:b.length≤2000) {p:Int} (h0:0≤p) (h1:p≤900000) {names:List Str} (hn:∀ s∈names,nameB s=true):DrA (spec_l2Leaf ⟨b,p⟩ names) b p (p+2) (λe=>formE 1 e=true∧partsE e=1):=by
 unfold spec_l2Leaf
 have rest:∀ (q:Int) (c:Bool),p≤q→q≤p+1→(c=false→names≠[])→DrA (if c then Option.bind (pspec_l30Rd__num (⟨b,q⟩:l30Rd) ([0,1,2,3,5,7,15,16,100,255]:List Int)) λr0_1=>some ((⟨1,r0_1.1,(mkS []),[]⟩:Expr_),(⟨b,r0_1.2.p⟩:l30Rd)) else Option.bind (pspec_l30Rd__of (⟨b,q⟩:l30Rd) names) λr0_2=>some ((⟨2,0,r0_2.1,[]⟩:Expr_),(⟨b,r0_2.2.p⟩:l30Rd))) b p (p+2) (λe=>formE 1 e=true∧partsE e=1):=by
  intro q c hq1 hq2 hc
  cases c with
  | true =>
   refine nm hb (by decide) (by omega) (by omega) λv hv=>DrF (lo:=p) (hi:=p+2) (P:=λe=>formE 1 e=true∧partsE e=1) rfl (by dsimp only;omega) (by dsimp only;omega) (leaf_num (n:=v) ?_)
   simp only [List.mem_cons,List.not_mem_nil,or_false] at hv
   omega
  | false =>
   exact ofx hb (List.length_pos_iff.2 (hc rfl)) (by omega) (by omega) λv hv=>DrF (lo:=p) (hi:=p+2) (P:=λe=>formE 1 e=true∧partsE e=1) rfl (by dsimp only;omega) (by dsimp only;omega) (leaf_name (hn v hv))
 by_cases hz:names=[]
 ·subst hz
  exact rest p true (by omega) (by omega) (λh=>by cases h)
 ·have e0 : decide ((names.length : Int) = 0) = false := by have := List.length_pos_iff.2 hz; simp; omega
  rw [e0]
  refine Dr.bind (P:=λs=>p≤s.1∧s.1≤p+1) ?_ λs hs=>rest s.1 s.2 hs.1 hs.2 λ_=>hz
  exact pk hb (by omega) (by omega) λv g1 g2=>Dr.some ⟨by dsimp only;omega,by dsimp only;omega⟩
theorem op1_form {op:Int} {d:Nat} {a:Expr_} (h:op=11∨op=12) (ha:formE d a=true):formE (d+1) ⟨op,0,mkS [],[a]⟩=true:=by
 rw [formE]
 rcases h with rfl | rfl<;>simp [headB,kidsI,inB_iff,ha]
theorem op2_form {op:Int} {d:Nat} {a c:Expr_} (h:3≤op∧op≤10) (ha:formE d a=true) (hc:formE d c=true):formE (d+1) ⟨op,0,mkS [],[a,c]⟩=true:=by
 have:op=3∨op=4∨op=5∨op=6∨op=7∨op=8∨op=9∨op=10:=by omega
 rw [formE]
 rcases this with rfl | rfl | rfl | rfl | rfl | rfl | rfl | rfl<;>simp [headB,kidsI,inB_iff,ha,hc]
theorem parts_1 (op n:Int) (s:Str) (a:Expr_):partsE ⟨op,n,s,[a]⟩=1+partsE a:=by rw [partsE_eq];show 1+partsL [a]=_;rw [partsL_cons,partsL_nil];omega
theorem parts_2 (op n:Int) (s:Str) (a c:Expr_):partsE ⟨op,n,s,[a,c]⟩=1+partsE a+partsE c:=by rw [partsE_eq];show 1+partsL [a,c]=_;rw [partsL_cons,partsL_cons,partsL_nil];omega
theorem expr_dr {b:List UInt8} (hb:b.length≤2000) {names:List Str} (hn:∀ s∈names,nameB s=true):∀ (d:Nat) (p:Int),d≤7→0≤p→p+4 ^ (d+1)≤900000→DrA (spec_l2Expr ⟨b,p⟩ names ((d+1:Nat):Int)) b p (p+4 ^ (d+1)) (λe=>formE (d+1) e=true∧partsE e+1≤2 ^ (d+1)):=by
 intro d
 induction d with
 | zero =>
  intro p hd h0 h1
  rw [spec_l2Expr]
  have e1:decide (((0+1:Nat):Int)<2)=true:=rfl
  rw [e1]
  simp only [if_true,Option.bind_some]
  exact DrA.bind (leaf_dr hb h0 (by simp at h1;omega) hn) λv q g1 g2 g3=>DrF (lo:=p) (hi:=p+4 ^ (0+1)) (P:=λe=>formE (0+1) e=true∧partsE e+1≤2 ^ (0+1)) rfl (by dsimp only;omega) (by dsimp only;simp;omega) ⟨g3.1,by rw [g3.2];decide⟩
 | succ d ih =>
  intro p hd h0 h1
  have hpow:(4:Int) ^ (d+1+1)=4*4 ^ (d+1):=by rw [Int.pow_succ];omega
  have hpow2:(2:Nat) ^ (d+1+1)=2*2 ^ (d+1):=by rw [Nat.pow_succ];omega
  have hp1:(4:Int)≤4 ^ (d+1):=by
   have:(4:Int) ^ (d+1)=((4 ^ (d+1):Nat):Int):=by push_cast;rfl
   rw [this]
   have:4 ^ 1≤4 ^ (d+1):=Nat.pow_le_pow_right (by decide) (by omega)
   omega
  have hp2:2≤2 ^ (d+1):=by
   have:2 ^ 1≤2 ^ (d+1):=Nat.pow_le_pow_right (by decide) (by omega)
   omega
  rw [hpow] at h1 ⊢
  rw [hpow2]
  generalize hP:(4:Int) ^ (d+1)=P at *
  rw [spec_l2Expr]
  have e1:decide (((d+1+1:Nat):Int)<2)=false:=by simp;omega
  have ew:w64 (((d+1+1:Nat):Int) - 1)=((d+1:Nat):Int):=by rw [w64_id (by omega) (by omega)];omega
  rw [e1]
  simp only [Bool.false_eq_true,if_false,ew]
  refine Dr.bind (P:=λs=>s.1=p+1) (pk hb h0 (by omega) λv _ _=>Dr.some rfl) λs hs=>?_
  refine Dr.ite (λ_=>?_) (λ_=>?_)
  ·rw [hs]
   exact DrA.bind (leaf_dr hb (by omega) (by omega) hn) λv q g1 g2 g3=>DrF (lo:=p) (hi:=p+4*P) (P:=λe=>formE (d+1+1) e=true∧partsE e+1≤2*2 ^ (d+1)) rfl (by dsimp only;omega) (by dsimp only;omega) ⟨form_le (by omega) g3.1,by rw [g3.2];omega⟩
  rw [hs]
  refine pk hb (by omega) (by omega) λv _ _=>?_
  dsimp only
  refine Dr.ite (λ_=>?_) (λ_=>?_)
  ·refine nm hb (by decide) (by omega) (by omega) fun op hop => ?_
   dsimp only
   have hop2:op=11∨op=12:=by
    simp only [List.mem_cons,List.not_mem_nil,or_false] at hop
    omega
   refine DrA.bind (ih (p+1+1+1) (by omega) (by omega) (by omega)) λe q g1 g2 g3=>DrF (lo:=p) (hi:=p+4*P) (P:=λe=>formE (d+1+1) e=true∧partsE e+1≤2*2 ^ (d+1)) rfl (by dsimp only;omega) (by dsimp only;omega) ⟨op1_form hop2 g3.1,by rw [parts_1];dsimp only;omega⟩
  ·refine nm hb (by decide) (by omega) (by omega) fun op hop => ?_
   dsimp only
   have hop2:3≤op∧op≤10:=by
    simp only [List.mem_cons,List.not_mem_nil,or_false] at hop
    omega
   refine DrA.bind (ih (p+1+1+1) (by omega) (by omega) (by omega)) λe q g1 g2 g3=>?_
   dsimp only
   refine DrA.bind (ih q (by omega) (by omega) (by omega)) λe2 q2 k1 k2 k3=>DrF (lo:=p) (hi:=p+4*P) (P:=λe=>formE (d+1+1) e=true∧partsE e+1≤2*2 ^ (d+1)) rfl (by dsimp only;omega) (by dsimp only;omega) ⟨op2_form hop2 g3.1 k3.1,by rw [parts_2];dsimp only;omega⟩
end Prg
end Go.Wk
namespace Go.Wk
open Go
namespace Prg
set_option maxRecDepth 10000
end Prg
end Go.Wk
namespace Go.Wk
open Go
namespace Prg
set_option maxRecDepth 10000
end Prg
end Go.Wk
namespace Go.Wk
open Go
namespace Prg
set_option maxRecDepth 10000
end Prg
end Go.Wk
namespace Go.Wk
open Go
namespace Prg
set_option maxRecDepth 10000
def nW (d:Nat) (e:Expr_) (need:Int):Nat:=(brW (decide (lvI e.op<need)) (wE d e)).length
def costJ:Job→Prop
 | .E lv ws e r=>∀ d,formE d e=true→nW d e lv+r.length≤ws.length
 | .L lv x ws e r=>(lv=1∨lv=2∨lv=3∨lv=4)→∀ d,formE d e=true→(∃ d',formE d' x=true∧∀ k:Nat,nW d' x lv≤k→nW d e lv+r.length≤ws.length+k)
 | .A ws ks r=>∀ d,(∀ k∈ks,formE d k=true)→(aW (ks.map (wE d))).length+1+r.length≤ws.length
 | .M acc ws ks r=>∀ d,(∀ k∈ks,formE d k=true)→(∀ k∈acc,formE d k=true)∧(aW (ks.map (wE d))).length+1+r.length≤(aW (acc.map (wE d))).length+ws.length
end Prg
end Go.Wk
namespace Go.Wk
open Go
namespace Prg
set_option maxRecDepth 10000
theorem many_ok {s:Str} {c:UInt8} (hs:s.b=[c]) {n:Int} (h0:0≤n) (h1:n≤5000):∃ t,spec_l30Many s n=some t∧(t.b.length:Int)=n∧∀ x∈t.b,x=c:=by
 have h:Dr (spec_l30Many s n) (λt=>(t.b.length:Int)=n∧∀ x∈t.b,x=c):=by
  unfold spec_l30Many
  refine Dr.bind (P:=λt:Str=>(t.b.length:Int)=n∧∀ x∈t.b,x=c) ?_ λt ht=>Dr.some ht
  refine Dr.bind (P:=λt:Str=>(t.b.length:Int)=n∧∀ x∈t.b,x=c) ?_ λt ht=>Dr.some ht
  refine Dr.loop (I:=λst:Str × Int × Str=>0≤st.2.1∧(st.2.2.b.length:Int)+st.2.1*st.1.b.length=n∧1≤st.1.b.length∧st.1.b.length≤10000∧(0<st.2.1→(st.1.b.length:Int)≤n)∧(∀ x∈st.1.b,x=c)∧∀ x∈st.2.2.b,x=c) (λst=>st.2.1.toNat) ⟨h0,by rw [hs];simp [mkS],by rw [hs];simp,by rw [hs];simp,λh=>by have h:0<n:=h;show ((s.b.length:Nat):Int)≤n;rw [hs];simp;omega,λx hx=>by rw [hs] at hx;simpa using hx,λx hx=>by simp [mkS] at hx⟩ ?_
  rintro ⟨x,m,r⟩ ⟨i1,i2,i3,i4,i5,i6,i7⟩
  dsimp only at i1 i2 i3 i4 i5 i6 i7 ⊢
  by_cases hm:0<m
  ·rw [if_pos (by simpa using hm)]
   have hxn:=i5 hm
   obtain ⟨k,rfl⟩:∃ k:Nat,m=k:=⟨m.toNat,by omega⟩
   have hrl:(r.b.length:Int)≤n:=by
    have:(0:Int)≤(k:Int)*x.b.length:=Int.mul_nonneg (by omega) (by omega)
    omega
   have e1:((k:Int).tmod 2)=((k % 2:Nat):Int):=by rw [Int.tmod_eq_emod_of_nonneg (by omega)];omega
   have e2:w64 ((k:Int).tdiv 2)=((k / 2:Nat):Int):=by
    have:(k:Int).tdiv 2=((k / 2:Nat):Int):=by rw [Int.tdiv_eq_ediv_of_nonneg (by omega)];omega
    have hk:(k:Int)≤n:=by
     have h2:(k:Int)*1≤(k:Int)*x.b.length:=Int.mul_le_mul_of_nonneg_left (by omega) (by omega)
     omega
    rw [this,w64_id (by omega) (by omega)]
   have step:∀ r':Str,(r'.b.length:Int)=r.b.length+((k % 2:Nat):Int)*x.b.length→(∀ y∈r'.b,y=c)→Dr (Option.bind (catS x x) λx2_1=>(some (.inl (x2_1,w64 ((k:Int).tdiv 2),r')):Option ((Str × Int × Str) ⊕ Str))) (λq=>(∀ t,q=.inl t→(0≤t.2.1∧(t.2.2.b.length:Int)+t.2.1*t.1.b.length=n∧1≤t.1.b.length∧t.1.b.length≤10000∧(0<t.2.1→(t.1.b.length:Int)≤n)∧(∀ x∈t.1.b,x=c)∧∀ x∈t.2.2.b,x=c)∧t.2.1.toNat<k)∧∀ t,q=.inr t→((t.b.length:Int)=n∧∀ x∈t.b,x=c)):=by
    intro r' hr1 hr2
    obtain ⟨y,y1,y2⟩:=cat_ex (s:=x) (t:=x) (by omega)
    have hy:=congrArg List.length y2
    rw [List.length_append] at hy
    rw [y1,Option.bind_some,e2]
    refine Dr.some (And.intro (λt ht=>?_) λt ht=>by cases ht)
    simp only [Sum.inl.injEq] at ht
    subst ht
    have hsum:(r'.b.length:Int)+((k / 2:Nat):Int)*y.b.length=n:=by
     rw [hr1,hy]
     have:(k:Int)=((k % 2:Nat):Int)+2*((k / 2:Nat):Int):=by omega
     rw [this] at i2
     rw [Int.add_mul] at i2
     push_cast at i2 ⊢
     rw [Int.mul_add]
     rw [show (2:Int)*((k:Int) / 2)*(x.b.length:Int)=(k:Int) / 2*(x.b.length:Int)+(k:Int) / 2*(x.b.length:Int) by rw [Int.mul_assoc,Int.two_mul]] at i2
     omega
    refine ⟨⟨by dsimp only;omega,hsum,by dsimp only;omega,by dsimp only;omega,λh=>?_,λz hz=>?_,hr2⟩,by dsimp only;omega⟩
    ·dsimp only at h ⊢
     have h2:1*(y.b.length:Int)≤((k / 2:Nat):Int)*y.b.length:=Int.mul_le_mul_of_nonneg_right (by omega) (by omega)
     omega
    ·dsimp only at hz
     rw [y2] at hz
     rcases List.mem_append.1 hz with h | h<;>exact i6 z h
   rw [e1]
   by_cases hodd:((k % 2:Nat):Int)=1
   ·rw [if_pos (by simpa using hodd)]
    obtain ⟨y,y1,y2⟩:=cat_ex (s:=r) (t:=x) (by omega)
    rw [y1]
    simp only [Option.bind_some]
    refine step y (by rw [y2,hodd];simp) λz hz=>?_
    rw [y2] at hz
    rcases List.mem_append.1 hz with h | h
    ·exact i7 z h
    ·exact i6 z h
   ·rw [if_neg (by simpa using hodd)]
    simp only [Option.bind_some]
    refine step r ?_ i7
    have:((k % 2:Nat):Int)=0:=by omega
    rw [this];simp
  ·rw [if_neg (by simpa using hm)]
   refine Dr.some (And.intro (λt ht=>by cases ht) λt ht=>?_)
   simp only [Sum.inr.injEq] at ht
   subst ht
   have:m=0:=by omega
   subst this
   simp at i2
   exact ⟨i2,i7⟩
 exact h
end Prg
end Go.Wk
namespace Go.Wk
open Go
namespace Prg
set_option maxRecDepth 10000
theorem mem_len {l:List Str} {n:Nat} (h:l.all (λs=>decide (s.b.length≤n))=true) {s:Str} (hs:s∈l):s.b.length≤n:=by
 simpa using List.all_eq_true.1 h s hs
theorem some_dr {b:List UInt8} (hb:b.length≤2000) {p:Int} (h0:0≤p) (h1:p≤900000):DrA (spec_l1Some ⟨b,p⟩) b p (p+2) (λs=>s.b.length≤4):=by
 unfold spec_l1Some
 refine pk hb h0 (by omega) λv _ _=>?_
 dsimp only
 refine Dr.ite (λ_=>ofx hb (by decide) (by omega) (by omega) λs hs=>DrF (lo:=p) (hi:=p+2) (P:=λs:Str=>s.b.length≤4) rfl (by dsimp only;omega) (by dsimp only;omega) (mem_len (by decide) hs)) λ_=>?_
 refine Dr.ite (λ_=>nm hb (by decide) (by omega) (by omega) λn hn=>?_) λ_=>?_
 ·obtain ⟨k,hk,rfl⟩:∃ k:Nat,k≤255∧n=(k:Int):=by
   simp only [List.mem_cons,List.not_mem_nil,or_false] at hn
   exact ⟨n.toNat,by omega,by omega⟩
  dsimp only
  rw [l30Dec_ok (by omega),Option.bind_some]
  exact DrF (lo:=p) (hi:=p+2) (P:=λs:Str=>s.b.length≤4) rfl (by dsimp only;omega) (by dsimp only;omega) (by dsimp only;rw [(numS_ok (by omega)).2];have:=decD_len k (by omega);omega)
 refine Dr.ite (λ_=>?_) λ_=>?_
 ·unfold spec_KeyWords
  rw [Option.bind_some]
  exact ofx hb (by decide) (by omega) (by omega) λs hs=>DrF (lo:=p) (hi:=p+2) (P:=λs:Str=>s.b.length≤4) rfl (by dsimp only;omega) (by dsimp only;omega) (mem_len (by decide) hs)
 ·exact ofx hb (by decide) (by omega) (by omega) λs hs=>DrF (lo:=p) (hi:=p+2) (P:=λs:Str=>s.b.length≤4) rfl (by dsimp only;omega) (by dsimp only;omega) (mem_len (by decide) hs)
theorem bad_dr {b:List UInt8} (hb:b.length≤2000) {p:Int} (h0:0≤p) (h1:p≤800000):DrA (spec_l1Bad ⟨b,p⟩) b p (p+3) (λs=>s.b.length≤5):=by
 unfold spec_l1Bad
 refine pk hb h0 (by omega) λv _ _=>?_
 dsimp only
 refine Dr.ite (λ_=>ofx hb (by decide) (by omega) (by omega) λs hs=>DrF (lo:=p) (hi:=p+3) (P:=λs:Str=>s.b.length≤5) rfl (by dsimp only;omega) (by dsimp only;omega) (mem_len (by decide) hs)) λ_=>?_
 exact DrA.bind (some_dr hb (p:=p+1) (by omega) (by omega)) λs q g1 g2 g3=>DrF (lo:=p) (hi:=p+3) (P:=λs:Str=>s.b.length≤5) rfl (by dsimp only;omega) (by dsimp only;omega) (by dsimp only;omega)
def shortT (s:Str):Prop:=s.b.length≤590∨∃ l,s.b=59::l
theorem l1Text_dr {b:List UInt8} (hb:b.length≤2000) {p:Int} (h0:0≤p) (h1:p≤500000):Dr (spec_l1Text ⟨b,p⟩) (λr=>shortT r.1):=by
 unfold spec_l1Text
 refine ofx hb (by decide) h0 (by omega) λs hs=>?_
 have hs2:=mem_len (n:=2) (by decide) hs
 dsimp only
 refine pk hb (by omega) (by omega) λv _ _=>?_
 dsimp only
 refine nm hb (by decide) (by omega) (by omega) λn hn=>?_
 have hn2:0≤n∧n≤20:=by
  simp only [List.mem_cons,List.not_mem_nil,or_false] at hn
  omega
 dsimp only
 refine Dr.bind (P:=λt:Int × Str=>p≤t.1∧t.1≤p+203∧t.2.b.length≤150) ?_ λt ht=>?_
 ·refine Dr.bind (P:=λt:Int × Str=>p≤t.1∧t.1≤p+203∧t.2.b.length≤150) ?_ λt ht=>Dr.some ht
  refine Dr.loop (I:=λst:Int × Str × Int=>p≤st.1∧st.1+10*st.2.2≤p+203∧0≤st.2.2∧(st.2.1.b.length:Int)+7*st.2.2≤150) (λst=>st.2.2.toNat) ⟨by dsimp only;omega,by dsimp only;omega,hn2.1,by dsimp only;omega⟩ ?_
  rintro ⟨q,t,m⟩ ⟨i1,i2,i3,i4⟩
  dsimp only at i1 i2 i3 i4 ⊢
  by_cases hm:0<m
  ·rw [if_pos (by simpa using hm)]
   refine Dr.bind (P:=λu:Int × Str=>q≤u.1∧u.1≤q+3∧u.2.b.length≤t.b.length+5) ?_ λu hu=>?_
   ·refine Dr.ite (λ_=>?_) λ_=>?_
    ·refine DrA.bind (bad_dr hb (p := q) (by omega) (by omega)) fun x q2 k1 k2 k3 => ?_
     obtain ⟨y,y1,y2⟩:=cat_ex (s:=t) (t:=x) (by omega)
     dsimp only
     rw [y1]
     refine Dr.some ⟨k1,k2,?_⟩
     dsimp only
     rw [y2,List.length_append];omega
    ·refine DrA.bind (some_dr hb (p := q) (by omega) (by omega)) fun x q2 k1 k2 k3 => ?_
     obtain ⟨y,y1,y2⟩:=cat_ex (s:=t) (t:=x) (by omega)
     dsimp only
     rw [y1]
     refine Dr.some ⟨k1,by dsimp only;omega,?_⟩
     dsimp only
     rw [y2,List.length_append];omega
   ·obtain ⟨u1,u2,u3⟩:=hu
    refine ofx hb (by decide) (by omega) (by omega) λx hx=>?_
    have hx2:=mem_len (n:=2) (by decide) hx
    obtain ⟨y,y1,y2⟩:=cat_ex (s:=u.2) (t:=x) (by omega)
    have hy:=congrArg List.length y2
    rw [List.length_append] at hy
    have hw:w64 (m - 1)=m - 1:=w64_id (by omega) (by omega)
    dsimp only
    rw [y1,hw]
    refine Dr.some (And.intro (λz hz=>?_) λz hz=>by cases hz)
    simp only [Sum.inl.injEq] at hz
    subst hz
    dsimp only
    exact ⟨⟨by omega,by omega,by omega,by omega⟩,by omega⟩
  ·rw [if_neg (by simpa using hm)]
   refine Dr.some (And.intro (λz hz=>by cases hz) λz hz=>?_)
   simp only [Sum.inr.injEq] at hz
   subst hz
   exact ⟨i1,by dsimp only;omega,by dsimp only;omega⟩
 obtain ⟨t1,t2,t3⟩:=ht
 refine pk hb (by omega) (by omega) λv2 _ _=>?_
 dsimp only
 refine Dr.ite (λ_=>?_) λ_=>Dr.some (.inl (by dsimp only;omega))
 refine nm hb (by decide) (by omega) (by omega) λk hk=>?_
 have hk2:600≤k∧k≤601:=by
  simp only [List.mem_cons,List.not_mem_nil,or_false] at hk
  omega
 obtain ⟨x,x1,x2,x3⟩:=many_ok (s:=mkS [59]) (c:=59) rfl (n:=k) (by omega) (by omega)
 dsimp only
 rw [x1,Option.bind_some]
 refine nm hb (by decide) (by omega) (by omega) λj hj=>?_
 have hj2:0≤j∧j≤2401:=by
  simp only [List.mem_cons,List.not_mem_nil,or_false] at hj
  omega
 obtain ⟨y,y1,y2,y3⟩:=many_ok (s:=mkS [32]) (c:=32) rfl (n:=j) (by omega) (by omega)
 obtain ⟨z,z1,z2⟩:=cat_ex (s:=x) (t:=y) (by omega)
 dsimp only
 rw [y1,Option.bind_some,z1,Option.bind_some]
 refine Dr.some (.inr ?_)
 dsimp only
 rw [z2]
 match hx:x.b,x2,x3 with
 | [],h,_=>simp at h;omega
 | a::l,_,h =>
  have:a=59:=h a (by simp)
  subst this
  exact ⟨_,rfl⟩
end Prg
end Go.Wk
namespace Go.Wk
open Go
namespace Prg
set_option maxRecDepth 10000
theorem rd_det {ws:List Word_} (hv:vW ws) (hl:ws.length≤1000) {lv:Int} {e e':Expr_} {r r':List Word_} (h:Rd (.E lv ws e r)) (h':Rd (.E lv ws e' r')):e=e'∧r=r':=by
 have h1:=rd_impl h hv hl
 have h2:=rd_impl h' hv hl
 rw [h1] at h2
 simp only [Option.some.injEq,Prod.mk.injEq,wordReader.mk.injEq] at h2
 exact ⟨h2.1,h2.2.1⟩
open Classical in
noncomputable def rE (ws:List Word_):Option (Expr_ × List Word_):=if h:∃ p:Expr_ × List Word_,Rd (.E 1 ws p.1 p.2) then some h.choose else none
theorem rE_some {ws:List Word_} {e:Expr_} {r:List Word_} (h:rE ws=some (e,r)):Rd (.E 1 ws e r):=by
 unfold rE at h
 split at h
 ·rename_i hx
  have:=hx.choose_spec
  rw [Option.some.inj h] at this
  exact this
 ·cases h
theorem rE_of {ws:List Word_} (hv:vW ws) (hl:ws.length≤1000) {e:Expr_} {r:List Word_} (h:Rd (.E 1 ws e r)):rE ws=some (e,r):=by
 unfold rE
 have hx:∃ p:Expr_ × List Word_,Rd (.E 1 ws p.1 p.2):=⟨(e,r),h⟩
 rw [dif_pos hx]
 obtain ⟨h1,h2⟩:=rd_det hv hl hx.choose_spec h
 rw [← h1,← h2]
theorem rE_none {ws:List Word_} (hv:vW ws) (hl:ws.length≤1000) (h:rE ws=none):FailE 1 ws:=by
 rcases tot_all ws.length ws (Nat.le_refl _) hl hv 1 (by omega) with ⟨e,r,hr⟩ | hf
 ·rw [rE_of hv hl hr] at h;cases h
 ·exact hf
def tLet:Str:=mkS [108,101,116]
def tSay:Str:=mkS [115,97,121]
def tPut:Str:=mkS [112,117,116]
def tIf:Str:=mkS [105,102]
def tElse:Str:=mkS [101,108,115,101]
def tLoop:Str:=mkS [108,111,111,112]
def tBack:Str:=mkS [98,97,99,107]
def tDo:Str:=mkS [100,111]
def tFn:Str:=mkS [102,110]
def opK (t:Str):Int:=if t=tLet then 1 else if t=tSay then 3 else if t=tPut then 4 else if t=tIf then 5 else if t=tLoop then 6 else if t=tBack then 7 else if t=tDo then 8 else 0
def wT (t:Str) (ws:List Word_):Option (List Word_):=if isT ws t then some ws.tail else none
def nT (ws:List Word_):Option (Str × List Word_):=match ws with
 | []=>none
 | w::r=>if w.kind=1 then some (w.text,r) else none
def headS (ws:List Word_):Option (Int × Str × List Word_):=match ws with
 | []=>none
 | w :: r => if opK w.text = 0 then (if w.kind = 1 then (wT (mkS [61]) r).map fun q => (2, w.text, q) else none)
  else if opK w.text=1 then (nT r).bind λp=>(wT (mkS [61]) p.2).map λq=>(1,p.1,q)
  else some (opK w.text,mkS [],r)
mutual
noncomputable def pS:Nat→List Word_→Option (Stmt_ × List Word_)
 | 0,_=>none
 | k+1,ws=>(headS ws).bind λh=>(rE h.2.2).bind λa =>
  if h.1=4 then (wT (mkS [44]) a.2).bind λq=>(rE q).bind λb=>(wT (mkS [59]) b.2).map λr=>(⟨4,h.2.1,[a.1,b.1],[],[]⟩,r)
  else if h.1=5 then (pK k a.2).bind λb=>if isT b.2 tElse then (pK k b.2.tail).map λc=>(⟨5,h.2.1,[a.1],b.1,c.1⟩,c.2) else some (⟨5,h.2.1,[a.1],b.1,[]⟩,b.2)
  else if h.1=6 then (pK k a.2).map λb=>(⟨6,h.2.1,[a.1],b.1,[]⟩,b.2)
  else (wT (mkS [59]) a.2).map λr=>(⟨h.1,h.2.1,[a.1],[],[]⟩,r)
noncomputable def pK:Nat→List Word_→Option (List Stmt_ × List Word_)
 | 0,_=>none
 | k+1,ws=>(wT (mkS [123]) ws).bind λq=>pB k [] q
noncomputable def pB:Nat→List Stmt_→List Word_→Option (List Stmt_ × List Word_)
 | 0,_,_=>none
 | k+1,acc,ws=>if isT ws (mkS [125]) then some (acc,ws.tail) else (pS k ws).bind λs=>pB k (acc++[s.1]) s.2
end
noncomputable def pP:Nat→List Str→List Word_→Option (List Str × List Word_)
 | 0,_,_=>none
 | k+1,acc,ws=>if isT ws (mkS [41]) then some (acc,ws.tail) else ((if acc=[] then some ws else wT (mkS [44]) ws).bind nT).bind λp=>pP k (acc++[p.1]) p.2
noncomputable def pF (k:Nat) (ws:List Word_):Option (Fn_ × List Word_):=(wT tFn ws).bind λa=>(nT a).bind λb=>(wT (mkS [40]) b.2).bind λc=>(pP k [] c).bind λd=>(pK k d.2).map λq=>(⟨b.1,d.1,q.1⟩,q.2)
noncomputable def pG (k0:Nat):Nat→List Fn_→List Word_→Option (List Fn_)
 | 0,_,_=>none
 | k+1,acc,ws=>if ws=[] then some acc else (pF k0 ws).bind λp=>pG k0 k (acc++[p.1]) p.2
def Suf (r ws:List Word_):Prop:=r.length≤ws.length∧∀ x∈r,x∈ws
def SufS (r ws:List Word_):Prop:=r.length<ws.length∧∀ x∈r,x∈ws
theorem SufS.le {r ws:List Word_} (h:SufS r ws):Suf r ws:=⟨Nat.le_of_lt h.1,h.2⟩
theorem Suf.trans {a b c:List Word_} (h:Suf a b) (h':Suf b c):Suf a c:=⟨Nat.le_trans h.1 h'.1,λx hx=>h'.2 x (h.2 x hx)⟩
theorem SufS.trans {a b c:List Word_} (h:Suf a b) (h':SufS b c):SufS a c:=⟨Nat.lt_of_le_of_lt h.1 h'.1,λx hx=>h'.2 x (h.2 x hx)⟩
theorem Suf.vW {r ws:List Word_} (h:Suf r ws) (hv:Prg.vW ws):Prg.vW r:=λx hx=>hv x (h.2 x hx)
theorem suf_tail (w:Word_) (r:List Word_):SufS r (w::r):=⟨by simp,λx hx=>by simp [hx]⟩
theorem wT_suf {t:Str} {ws q:List Word_} (h:wT t ws=some q):SufS q ws:=by
 unfold wT at h
 cases ws with
 | nil=>simp [isT] at h
 | cons w r =>
  split at h
  ·cases h;exact suf_tail w r
  ·cases h
theorem nT_suf {ws q:List Word_} {n:Str} (h:nT ws=some (n,q)):SufS q ws:=by
 unfold nT at h
 cases ws with
 | nil=>cases h
 | cons w r =>
  dsimp only at h
  split at h
  ·cases h;exact suf_tail _ _
  ·cases h
theorem rE_suf {ws r:List Word_} {e:Expr_} (h:rE ws=some (e,r)):SufS r ws:=rd_suf (rE_some h)
theorem headS_suf {ws q:List Word_} {op:Int} {n:Str} (h:headS ws=some (op,n,q)):SufS q ws:=by
 unfold headS at h
 cases ws with
 | nil=>cases h
 | cons w r =>
  dsimp only at h
  split at h
  ·split at h
   ·obtain ⟨q',h1,h2⟩:=Option.map_eq_some_iff.1 h
    cases h2
    exact SufS.trans (wT_suf h1).le (suf_tail w r)
   ·cases h
  ·split at h
   ·obtain ⟨p,h1,h2⟩:=Option.bind_eq_some_iff.1 h
    obtain ⟨q',h3,h4⟩:=Option.map_eq_some_iff.1 h2
    cases h4
    exact SufS.trans ((wT_suf h3).le.trans (nT_suf (n:=p.1) (q:=p.2) h1).le) (suf_tail w r)
   ·cases h
    exact suf_tail w _
theorem pSK_suf:∀ k:Nat,(∀ ws s r,pS k ws=some (s,r)→SufS r ws)∧(∀ ws b r,pK k ws=some (b,r)→SufS r ws)∧(∀ acc ws b r,pB k acc ws=some (b,r)→SufS r ws):=by
 intro k
 induction k with
 | zero=>exact ⟨λws s r h=>(by rw [pS] at h;cases h),λws s r h=>(by rw [pK] at h;cases h),λacc ws s r h=>(by rw [pB] at h;cases h)⟩
 | succ k ih =>
  obtain ⟨i1,i2,i3⟩:=ih
  refine ⟨λws s r h=>?_,λws b r h=>?_,λacc ws b r h=>?_⟩
  ·rw [pS] at h
   obtain ⟨⟨op,nm,q⟩,h1,h⟩:=Option.bind_eq_some_iff.1 h
   obtain ⟨⟨e,q2⟩,h2,h⟩:=Option.bind_eq_some_iff.1 h
   have s1:=headS_suf h1
   have s2:SufS q2 ws:=SufS.trans (rE_suf h2).le s1
   dsimp only at h h2
   split at h
   ·obtain ⟨q3,h3,h⟩:=Option.bind_eq_some_iff.1 h
    obtain ⟨⟨e2,q4⟩,h4,h⟩:=Option.bind_eq_some_iff.1 h
    obtain ⟨q5,h5,h⟩:=Option.map_eq_some_iff.1 h
    cases h
    exact SufS.trans ((wT_suf h5).le.trans ((rE_suf h4).le.trans (wT_suf h3).le)) s2
   ·split at h
    ·obtain ⟨⟨b,q3⟩,h3,h⟩:=Option.bind_eq_some_iff.1 h
     dsimp only at h
     split at h
     ·rename_i ht
      obtain ⟨⟨c,q4⟩,h4,h⟩:=Option.map_eq_some_iff.1 h
      cases h
      have:Suf q3.tail q3:=by
       cases q3 with
       | nil=>exact ⟨Nat.le_refl _,λx hx=>hx⟩
       | cons y z=>exact (suf_tail y z).le
      exact SufS.trans ((i2 _ _ _ h4).le.trans (this.trans (i2 _ _ _ h3).le)) s2
     ·cases h
      exact SufS.trans (i2 _ _ _ h3).le s2
    ·split at h
     ·obtain ⟨⟨b,q3⟩,h3,h⟩:=Option.map_eq_some_iff.1 h
      cases h
      exact SufS.trans (i2 _ _ _ h3).le s2
     ·obtain ⟨q3,h3,h⟩:=Option.map_eq_some_iff.1 h
      cases h
      exact SufS.trans (wT_suf h3).le s2
  ·rw [pK] at h
   obtain ⟨q,h1,h⟩:=Option.bind_eq_some_iff.1 h
   exact SufS.trans (i3 _ _ _ _ h).le (wT_suf h1)
  ·rw [pB] at h
   split at h
   ·rename_i ht
    cases h
    cases ws with
    | nil=>cases ht
    | cons w r=>exact suf_tail w r
   ·obtain ⟨⟨s,q⟩,h1,h⟩:=Option.bind_eq_some_iff.1 h
    exact SufS.trans (i3 _ _ _ _ h).le (i1 _ _ _ h1)
theorem pP_suf:∀ (k:Nat) (acc:List Str) (ws:List Word_) (ps:List Str) (r:List Word_),pP k acc ws=some (ps,r)→SufS r ws
 | 0,acc,ws,ps,r,h=>by rw [pP] at h;cases h
 | k+1,acc,ws,ps,r,h=>by
  rw [pP] at h
  split at h
  ·rename_i ht
   cases h
   cases ws with
   | nil=>cases ht
   | cons w r=>exact suf_tail w r
  ·obtain ⟨⟨n,q⟩,h1,h⟩:=Option.bind_eq_some_iff.1 h
   obtain ⟨q2,h2,h3⟩:=Option.bind_eq_some_iff.1 h1
   have:Suf q2 ws:=by
    split at h2
    ·cases h2;exact ⟨Nat.le_refl _,λx hx=>hx⟩
    ·exact (wT_suf h2).le
   have s1:=nT_suf h3
   exact SufS.trans (pP_suf k _ _ _ _ h).le ⟨Nat.lt_of_lt_of_le s1.1 this.1,λx hx=>this.2 x (s1.2 x hx)⟩
theorem pF_suf {k:Nat} {ws r:List Word_} {f:Fn_} (h:pF k ws=some (f,r)):SufS r ws:=by
 unfold pF at h
 obtain ⟨a,h1,h⟩:=Option.bind_eq_some_iff.1 h
 obtain ⟨⟨n,b⟩,h2,h⟩:=Option.bind_eq_some_iff.1 h
 obtain ⟨c,h3,h⟩:=Option.bind_eq_some_iff.1 h
 obtain ⟨⟨ps,d⟩,h4,h⟩:=Option.bind_eq_some_iff.1 h
 obtain ⟨⟨q,r'⟩,h5,h⟩:=Option.map_eq_some_iff.1 h
 cases h
 exact SufS.trans (((pSK_suf k).2.1 _ _ _ h5).le.trans ((pP_suf _ _ _ _ _ h4).le.trans ((wT_suf h3).le.trans (nT_suf h2).le))) (wT_suf h1)
end Prg
end Go.Wk
namespace Go.Wk
open Go
namespace Prg
set_option maxRecDepth 10000
theorem key_kind {w:Word_} (hw:wordB w=true) (hk:keyB w.text=true):w.kind=4:=by
 have hne:=hk
 unfold keyB at hne
 have hne:=of_decide_eq_true hne
 unfold wordB at hw
 by_cases h1:w.kind=1
 ·rw [if_pos h1] at hw
  unfold nameB at hw
  rw [hk] at hw
  simp at hw
 rw [if_neg h1] at hw
 by_cases h2:w.kind=2
 ·rw [if_pos h2] at hw
  have:numI w.text=-1:=by
   have key:∀ s∈glob_impl_keys,s.b.all digB=false:=by decide
   unfold numI
   rw [if_neg]
   rintro ⟨_,h,_⟩
   rw [key _ hne] at h;cases h
  rw [this] at hw
  simp at hw
 rw [if_neg h2] at hw
 by_cases h3:w.kind=3
 ·rw [if_pos h3] at hw
  have key:∀ s∈glob_impl_keys,∃ a b l,s.b=a::b::l:=by
   intro s hs
   unfold glob_impl_keys at hs
   simp only [List.mem_cons,List.not_mem_nil,or_false] at hs
   rcases hs with rfl | rfl | rfl | rfl | rfl | rfl | rfl | rfl | rfl<;>exact ⟨_,_,_,rfl⟩
  obtain ⟨a,b,l,h⟩:=key _ hne
  rw [h] at hw
  cases hw
 rw [if_neg h3] at hw
 by_cases h4:w.kind=4
 ·exact h4
 ·rw [if_neg h4] at hw;cases hw
theorem opK_key {t:Str} (h:opK t≠0):keyB t=true:=by
 unfold opK at h
 by_cases h1:t=tLet
 ·subst h1;decide
 by_cases h2:t=tSay
 ·subst h2;decide
 by_cases h3:t=tPut
 ·subst h3;decide
 by_cases h4:t=tIf
 ·subst h4;decide
 by_cases h5:t=tLoop
 ·subst h5;decide
 by_cases h6:t=tBack
 ·subst h6;decide
 by_cases h7:t=tDo
 ·subst h7;decide
 ·simp [h1,h2,h3,h4,h5,h6,h7] at h
theorem opK_range (t:Str):opK t=0∨opK t=1∨opK t=3∨opK t=4∨opK t=5∨opK t=6∨opK t=7∨opK t=8:=by
 unfold opK;repeat' split
 all_goals decide
theorem l3Op_ok (t:Str):spec_l3Op t=some (if opK t=0 then 2 else opK t):=by
 by_cases h1:t=tLet
 ·subst h1;rfl
 by_cases h2:t=tSay
 ·subst h2;rfl
 by_cases h3:t=tPut
 ·subst h3;rfl
 by_cases h4:t=tIf
 ·subst h4;rfl
 by_cases h5:t=tLoop
 ·subst h5;rfl
 by_cases h6:t=tBack
 ·subst h6;rfl
 by_cases h7:t=tDo
 ·subst h7;rfl
 have h0:opK t=0:=by unfold opK;simp [h1,h2,h3,h4,h5,h6,h7]
 rw [h0,if_pos rfl]
 unfold spec_l3Op
 rw [show (((9:Int):Int) - 1).toNat=8 from rfl]
 have g:∀ i:Int,getI [(mkS []),tLet,(mkS []),tSay,tPut,tIf,tLoop,tBack,tDo] i=([(mkS []),tLet,(mkS []),tSay,tPut,tIf,tLoop,tBack,tDo]:List Str)[i.toNat]?∨i<0:=by
  intro i
  unfold getI
  by_cases h:0≤i
  ·left;simp [h]
  ·right;omega
 have e1:decide (mkS [108,101,116]=t)=false:=decide_eq_false λe=>h1 e.symm
 have e2:decide (mkS [115,97,121]=t)=false:=decide_eq_false λe=>h2 e.symm
 have e3:decide (mkS [112,117,116]=t)=false:=decide_eq_false λe=>h3 e.symm
 have e4:decide (mkS [105,102]=t)=false:=decide_eq_false λe=>h4 e.symm
 have e5:decide (mkS [108,111,111,112]=t)=false:=decide_eq_false λe=>h5 e.symm
 have e6:decide (mkS [98,97,99,107]=t)=false:=decide_eq_false λe=>h6 e.symm
 have e7:decide (mkS [100,111]=t)=false:=decide_eq_false λe=>h7 e.symm
 have e8:(if decide (mkS []=t)=true then some (decide (t≠mkS [])) else some false:Option Bool)=some false:=by
  by_cases h:mkS []=t
  ·subst h;rfl
  ·rw [decide_eq_false h];rfl
 have g1:getI ([(mkS []),(mkS [108,101,116]),(mkS []),(mkS [115,97,121]),(mkS [112,117,116]),(mkS [105,102]),(mkS [108,111,111,112]),(mkS [98,97,99,107]),(mkS [100,111])]:List Str) 1=some (mkS [108,101,116]):=rfl
 have g2:getI ([(mkS []),(mkS [108,101,116]),(mkS []),(mkS [115,97,121]),(mkS [112,117,116]),(mkS [105,102]),(mkS [108,111,111,112]),(mkS [98,97,99,107]),(mkS [100,111])]:List Str) 2=some (mkS []):=rfl
 have g3:getI ([(mkS []),(mkS [108,101,116]),(mkS []),(mkS [115,97,121]),(mkS [112,117,116]),(mkS [105,102]),(mkS [108,111,111,112]),(mkS [98,97,99,107]),(mkS [100,111])]:List Str) 3=some (mkS [115,97,121]):=rfl
 have g4:getI ([(mkS []),(mkS [108,101,116]),(mkS []),(mkS [115,97,121]),(mkS [112,117,116]),(mkS [105,102]),(mkS [108,111,111,112]),(mkS [98,97,99,107]),(mkS [100,111])]:List Str) 4=some (mkS [112,117,116]):=rfl
 have g5:getI ([(mkS []),(mkS [108,101,116]),(mkS []),(mkS [115,97,121]),(mkS [112,117,116]),(mkS [105,102]),(mkS [108,111,111,112]),(mkS [98,97,99,107]),(mkS [100,111])]:List Str) 5=some (mkS [105,102]):=rfl
 have g6:getI ([(mkS []),(mkS [108,101,116]),(mkS []),(mkS [115,97,121]),(mkS [112,117,116]),(mkS [105,102]),(mkS [108,111,111,112]),(mkS [98,97,99,107]),(mkS [100,111])]:List Str) 6=some (mkS [108,111,111,112]):=rfl
 have g7:getI ([(mkS []),(mkS [108,101,116]),(mkS []),(mkS [115,97,121]),(mkS [112,117,116]),(mkS [105,102]),(mkS [108,111,111,112]),(mkS [98,97,99,107]),(mkS [100,111])]:List Str) 7=some (mkS [98,97,99,107]):=rfl
 have g8:getI ([(mkS []),(mkS [108,101,116]),(mkS []),(mkS [115,97,121]),(mkS [112,117,116]),(mkS [105,102]),(mkS [108,111,111,112]),(mkS [98,97,99,107]),(mkS [100,111])]:List Str) 8=some (mkS [100,111]):=rfl
 simp only [forN,show (1:Int)+1=2 from rfl,show (2:Int)+1=3 from rfl,show (3:Int)+1=4 from rfl,show (4:Int)+1=5 from rfl,show (5:Int)+1=6 from rfl,show (6:Int)+1=7 from rfl,show (7:Int)+1=8 from rfl,g1,g2,g3,g4,g5,g6,g7,g8,Option.bind_some,e1,e2,e3,e4,e5,e6,e7,e8,Bool.false_eq_true,if_false]
 rfl
theorem keys_get (t:Str):(MapT.get glob_impl_stmtKeys t).getD 0=opK t:=by
 unfold MapT.get glob_impl_stmtKeys lookM opK
 by_cases h1:t=tLet
 ·subst h1;rfl
 by_cases h2:t=tSay
 ·subst h2;rfl
 by_cases h3:t=tPut
 ·subst h3;rfl
 by_cases h4:t=tIf
 ·subst h4;rfl
 by_cases h5:t=tLoop
 ·subst h5;rfl
 by_cases h6:t=tBack
 ·subst h6;rfl
 by_cases h7:t=tDo
 ·subst h7;rfl
 have f1:¬ t=mkS [108,101,116]:=h1
 have f2:¬ t=mkS [115,97,121]:=h2
 have f3:¬ t=mkS [112,117,116]:=h3
 have f4:¬ t=mkS [105,102]:=h4
 have f5:¬ t=mkS [108,111,111,112]:=h5
 have f6:¬ t=mkS [98,97,99,107]:=h6
 have f7:¬ t=mkS [100,111]:=h7
 simp [findIx,h1,h2,h3,h4,h5,h6,h7,f1,f2,f3,f4,f5,f6,f7]
def SpW (list:List Word_) (o:Option (List Word_)) (res:Option l3Reader):Prop:=match o with
 | some r=>∃ m:Nat,AtW list m r∧res=some ⟨list,(m:Int)⟩
 | none=>res=some ⟨list,-1⟩
def SpO {X:Type} (list:List Word_) (o:Option (X × List Word_)) (res:Option (X × l3Reader)):Prop:=match o with
 | some p=>∃ m:Nat,AtW list m p.2∧res=some (p.1,⟨list,(m:Int)⟩)
 | none=>∃ x,res=some (x,⟨list,-1⟩)
theorem sIs {list:List Word_} {n:Nat} {ws:List Word_} (h:AtW list n ws) (t:Str):pspec_l3Reader__is ⟨list,(n:Int)⟩ t=some (isT ws t):=by
 unfold pspec_l3Reader__is
 rw [if_pos (by simp),at_is h];rfl
theorem sIsB (list:List Word_) (t:Str):pspec_l3Reader__is ⟨list,-1⟩ t=some false:=rfl
theorem sWant {list:List Word_} (hl:list.length≤1000) {n:Nat} {ws:List Word_} (h:AtW list n ws) (t:Str):SpW list (wT t ws) (pspec_l3Reader__want ⟨list,(n:Int)⟩ t):=by
 unfold pspec_l3Reader__want wT
 rw [sIs h,Option.bind_some]
 have:=h.2
 cases ws with
 | nil=>rfl
 | cons w r =>
  cases hi:isT (w::r) t with
  | true=>exact ⟨n+1,(at_cons h).2.2,by simp only [Bool.not_true,Bool.false_eq_true,if_false];rw [w64_1 (by omega)]⟩
  | false=>rfl
theorem sWantB (list:List Word_) (t:Str):pspec_l3Reader__want ⟨list,-1⟩ t=some ⟨list,-1⟩:=by
 unfold pspec_l3Reader__want
 rw [sIsB];rfl
theorem sName {list:List Word_} (hl:list.length≤1000) {n:Nat} {ws:List Word_} (h:AtW list n ws):SpO list (nT ws) (pspec_l3Reader__name ⟨list,(n:Int)⟩):=by
 unfold pspec_l3Reader__name nT
 have e0:decide ((n:Int)<0)=false:=by simp
 have hle:=h.2
 cases ws with
 | nil =>
  have h1:=at_nil h
  have e1:decide ((list.length:Int)≤(n:Int))=true:=by simp;omega
  dsimp only
  rw [e0,e1]
  exact ⟨_,rfl⟩
 | cons w r =>
  obtain ⟨h1,h2,h3⟩:=at_cons h
  have e1:decide ((list.length:Int)≤(n:Int))=false:=by simp;omega
  have e2:w64 (((n+1:Nat):Int) - 1)=(n:Int):=by rw [w64_id (by omega) (by omega)];omega
  dsimp only
  rw [e0,e1,w64_1 (by omega),e2,h2]
  by_cases hk:w.kind=1
  ·simp only [hk,Bool.false_eq_true,if_false,Option.bind_some,ne_eq,not_true_eq_false,decide_false,if_true]
   exact ⟨n+1,h3,rfl⟩
  ·simp only [hk,Bool.false_eq_true,if_false,Option.bind_some,ne_eq,not_false_eq_true,decide_true,if_true]
   exact ⟨_,rfl⟩
theorem sNameB (list:List Word_):pspec_l3Reader__name ⟨list,-1⟩=some (mkS [],⟨list,-1⟩):=rfl
theorem sExpr {list:List Word_} (hl:list.length≤1000) (hv:vW list) {n:Nat} {ws:List Word_} (h:AtW list n ws):SpO list (rE ws) (pspec_l3Reader__expr ⟨list,(n:Int)⟩):=by
 have hvw:vW ws:=λw hw=>hv w (List.mem_of_mem_drop (by rw [h.1];exact hw))
 have hlw:ws.length≤1000:=by rw [← h.1,List.length_drop];omega
 unfold pspec_l3Reader__expr
 have e0:decide ((n:Int)<0)=false:=by simp
 dsimp only
 rw [e0]
 cases hr:rE ws with
 | some p =>
  obtain ⟨m,g1,g2,g3⟩:=rd_spec hl hv (rE_some hr) n h
  rw [if_neg (by simp),g3]
  refine ⟨m,g1,?_⟩
  simp only [Option.bind_some,mk_eta]
 | none =>
  obtain ⟨e,g⟩:=(rE_none hvw hlw hr).1 list n hl hv h
  rw [if_neg (by simp),g]
  exact ⟨_,rfl⟩
theorem sExprB (list:List Word_):pspec_l3Reader__expr ⟨list,-1⟩=some (⟨0,0,mkS [],[]⟩,⟨list,-1⟩):=rfl
theorem sBlockB (list:List Word_):pspec_l3Reader__block ⟨list,-1⟩=some ([],⟨list,-1⟩):=by
 rw [pspec_l3Reader__block,sWantB,Option.bind_some]
 refine bindt (bindt (loopM_inr rfl) rfl) ?_
 rw [sWantB];rfl
def ImW (o:Option (List Word_)) (res:Option wordReader):Prop:=match o with
 | some r=>res=some ⟨r,false⟩
 | none=>∃ ws',res=some ⟨ws',true⟩
def ImO {X:Type} (o:Option (X × List Word_)) (res:Option (X × wordReader)):Prop:=match o with
 | some p=>res=some (p.1,⟨p.2,false⟩)
 | none=>∃ x ws',res=some (x,⟨ws',true⟩)
theorem iWantB (ws:List Word_) (k:Int) (t:Str):∃ ws',pimpl_wordReader__want ⟨ws,true⟩ k t=some ⟨ws',true⟩:=by
 rw [want_ok]
 cases tkW ws k t<;>exact ⟨_,rfl⟩
theorem iWantT {ws:List Word_} {k:Int} {t:Str} (h:tkW ws k t=isT ws t):ImW (wT t ws) (pimpl_wordReader__want ⟨ws,false⟩ k t):=by
 rw [want_ok,h]
 unfold wT
 cases isT ws t with
 | true=>rfl
 | false=>exact ⟨_,rfl⟩
theorem iWant {ws:List Word_} (hw:vW ws) {t:Str} {c:UInt8} (ht:t.b=[c]) (hc:c∈sgnL):ImW (wT t ws) (pimpl_wordReader__want ⟨ws,false⟩ 3 t):=iWantT (tk_is hw ht hc)
theorem tk_key {ws:List Word_} (hw:vW ws) {t:Str} (ht:keyB t=true):tkW ws 4 t=isT ws t:=by
 cases ws with
 | nil=>rfl
 | cons w r =>
  unfold tkW isT
  by_cases h:w.text=t
  ·have := key_kind (vW_head hw) (by rw [h]; exact ht)
   simp [h,this]
  ·simp [h]
theorem iName {ws:List Word_}:ImO (nT ws) (pimpl_wordReader__name ⟨ws,false⟩):=by
 unfold pimpl_wordReader__name nT
 cases ws with
 | nil =>
  rw [next_nil]
  exact ⟨_,_,rfl⟩
 | cons w r =>
  rw [next_cons]
  by_cases hk:w.kind=1
  ·simp [hk,ImO]
  ·simp [hk,ImO]
theorem iNameB (ws:List Word_):∃ x ws',pimpl_wordReader__name ⟨ws,true⟩=some (x,⟨ws',true⟩):=by
 unfold pimpl_wordReader__name
 cases ws with
 | nil=>rw [next_nil];exact ⟨_,_,rfl⟩
 | cons w r =>
  rw [next_cons]
  by_cases hk:w.kind=1
  ·exact ⟨w.text,r,by simp [hk]⟩
  ·exact ⟨w.text,r,by simp [hk]⟩
theorem iExpr {ws:List Word_} (hv:vW ws) (hl:ws.length≤1000):ImO (rE ws) (pimpl_wordReader__expr ⟨ws,false⟩ 1):=by
 cases hr:rE ws with
 | some p=>exact rd_impl (rE_some hr) hv hl
 | none=>exact (rE_none hv hl hr).2
theorem iBlockB (ws:List Word_):∃ ws',pimpl_wordReader__block ⟨ws,true⟩=some ([],⟨ws',true⟩):=by
 obtain ⟨ws',h⟩:=iWantB ws 3 (mkS [123])
 refine ⟨ws',?_⟩
 rw [pimpl_wordReader__block,h,Option.bind_some]
 exact bindt (bindt (loopM_inr rfl) rfl) rfl
end Prg
end Go.Wk
