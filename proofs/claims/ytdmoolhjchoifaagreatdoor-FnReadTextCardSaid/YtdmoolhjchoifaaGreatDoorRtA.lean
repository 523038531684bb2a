/- A part of the proof of FnReadTextCardSaid. -/
import Derived.Test.YtdmoolhjchoifaaGreatDoorRtModels
import Derived.Test.YtdmoolhjchoifaaGreatDoorWkN
import Derived.Test.YtdmoolhjchoifaaGreatDoorWkY
import Derived.Laws.RangeString
import Derived.Laws.RangeAny
import Derived.Test.YtdmoolhjchoifaaGreatDoorWkAd
namespace Go.Wk
open Go
namespace Prg
set_option maxRecDepth 10000
def kC (b:UInt8):Bool:=decide ((97:UInt8)≤b)&&decide (b≤(122:UInt8))
def jf (b:UInt8):Bool:=decide ((48:UInt8)≤b)&&decide (b≤(57:UInt8))
def nI:List UInt8:=[40,41,123,125,59,44,43,45,42,47,37,60,61,38,33,64]
def kV (b:UInt8):Int:=if kC b then 1 else if jf b then 2 else if b∈nI then 3 else if b=32∨b=10 then 4 else 0
theorem tg (b:UInt8):jV b=some (kC b):=by
 unfold jV kC
 by_cases h:(97:UInt8)≤b<;>simp [h]
theorem rn (b:UInt8):jL b=some (jf b):=by
 unfold jL jf
 by_cases h:(48:UInt8)≤b<;>simp [h]
theorem av8 (s:Str) (c:UInt8):∃ n:Int,nQ s c=some n∧(0≤n↔c∈s.b):=by
 unfold nQ
 rcases xO (xs:=s.b) (body:=(λ(uA:Int) (uC:Unit)=>((fT (s).b uA).bind λuB=>if decide (uB=c) then some (.inr uA) else some (.inl ()):Option ((Unit) ⊕ (Int))))) (λx=>decide (x=c)) (λi=>i) (λl x r he=>by
  rw [he,iJ,obS]) with ⟨h1,h2⟩ | ⟨l,x,r,h1,h2,h3,h4⟩
 ·refine ⟨-1, fS h2 rfl, ⟨fun h => by omega, fun h => ?_⟩⟩
  have:=List.any_eq_false.1 h1 c h
  simp at this
 ·refine ⟨_, fS h4 rfl, ⟨fun _ => ?_, fun _ => by omega⟩⟩
  simp at h3;subst h3
  rw [h1];simp
theorem nr (b:UInt8):il b=some (kV b):=by
 obtain ⟨n,h1,h2⟩:=av8 (mkS [40,41,123,125,59,44,43,45,42,47,37,60,61,38,33,64]) b
 have e1:(if decide ((97:UInt8)≤b) then some (decide (b≤(122:UInt8))) else some false:Option Bool)=some (kC b):=by unfold kC;by_cases h:(97:UInt8)≤b<;>simp [h]
 have e2:(if decide ((48:UInt8)≤b) then some (decide (b≤(57:UInt8))) else some false:Option Bool)=some (jf b):=by unfold jf;by_cases h:(48:UInt8)≤b<;>simp [h]
 have e3:(if decide (b=(32:UInt8)) then some true else some (decide (b=(10:UInt8))):Option Bool)=some (decide (b=32∨b=10)):=by by_cases h:b=32<;>simp [h]
 have h3:(0≤n)↔b∈nI:=h2
 unfold il kV
 rw [e1,e2,e3,h1]
 simp only [obS]
 cases kC b with
 | true=>rfl
 | false =>
  cases jf b with
  | true=>rfl
  | false =>
   by_cases h:b∈nI
   ·simp [h,h3.2 h]
   ·have:¬ 0≤n:=λh'=>h (h3.1 h')
    simp only [Bool.false_eq_true,if_false,h,this,decide_false]
    by_cases h5:b=32∨b=10<;>simp [h5]
def o9 (s:Str):Bool:=decide (s∈fO)
theorem zk (xs:List Str) (v:Str):gy xs v=some (decide (v∈xs)):=by
 unfold gy jZ
 rcases xO (xs:=xs) (body:=(λ(uA:Int) (uC:Unit)=>((fT xs uA).bind λuB=>if decide (v=uB) then some (.inr uA) else some (.inl ()):Option ((Unit) ⊕ (Int))))) (λx=>decide (v=x)) (λi=>i) (λl x r he=>by
  rw [he,iJ,obS]) with ⟨h1,h2⟩ | ⟨l,x,r,h1,h2,h3,h4⟩
 ·rw [fS (b:=some (-1)) h2 rfl,obS]
  have:v ∉ xs:=λh=>by have:=List.any_eq_false.1 h1 v h;simp at this
  simp [this]
 ·rw [fS (b:=some (l.length:Int)) h4 rfl,obS]
  simp at h3;subst h3
  have:v∈xs:=by rw [h1];simp
  simp [this]
theorem zu (s:Str):mw s=some (o9 s):=by
 unfold mw lq o9
 rw [obS]
 show (forN (λ(uA:Int) (uC:Unit)=>((fT fO uA).bind λuB=>if decide (uB=s) then some (.inr true) else some (.inl ()):Option ((Unit) ⊕ (Bool)))) (((fO.length:Int):Int) - 0).toNat 0 ()).bind _=_
 rw [q9 (l9 (xs:=fO) (body:=(λ(uA:Int) (uC:Unit)=>((fT fO uA).bind λuB=>if decide (uB=s) then some (.inr true) else some (.inl ()):Option ((Unit) ⊕ (Bool))))) (λx=>decide (x=s)) true (λl x r he=>by rw [he,iJ,obS]))]
 cases h:fO.any (λx=>decide (x=s)) with
 | true =>
  obtain ⟨x,h1,h2⟩:=List.any_eq_true.1 h
  simp at h2;subst h2
  simp [h1]
 | false =>
  have:s ∉ fO:=λh'=>by have:=List.any_eq_false.1 h s h';simp at this
  simp [this]
def iL (s:Str):Bool:=decide (s.b≠[])&&s.b.all kC&&decide (s.b.length≤4)&&!o9 s
theorem bf5 (s:Str) (c:Int):o8 s c=some (s.b.all (λb=>decide (kV b=c))&&decide (s.b≠[])):=by
 unfold o8
 rw [q9 (l9 (xs:=s.b) (body:=(λ(uA:Int) (uD:Unit)=>((fT (s).b uA).bind λuB=>(il uB).bind λuC=>if decide (uC≠c) then some (.inr false) else some (.inl ()):Option ((Unit) ⊕ (Bool))))) (λb=>decide (kV b≠c)) false (λl x r he=>by
  rw [he,iJ,obS,nr,obS]))]
 have e:s.b.any (λb=>decide (kV b≠c))=!s.b.all (λb=>decide (kV b=c)):=by
  rw [List.not_all_eq_any_not];congr 1;funext b;simp
 rw [e]
 have h0:decide (0<(s.b.length:Int))=decide (s.b≠[]):=by
  cases s.b<;>simp
 cases s.b.all (λb=>decide (kV b=c)) with
 | true =>
  show some (decide (0<(s.b.length:Int)))=_
  rw [h0,Bool.true_and]
 | false=>rfl
theorem bl2 (b:UInt8):decide (kV b=1)=kC b:=by
 cases h1:kC b<;>cases h2:jf b<;>by_cases h3:b∈nI<;>by_cases h4:b=32∨b=10<;>simp [kV,h1,h2,h3,h4]
theorem qe (s:Str):k8 s=some (iL s):=by
 unfold k8
 rw [bf5,zu]
 have e:s.b.all (λb=>decide (kV b=1))=s.b.all kC:=by congr 1;funext b;exact bl2 b
 have e2:decide ((s.b.length:Int)≤4)=decide (s.b.length≤4):=by rw [decide_eq_decide];omega
 rw [e,e2]
 unfold iL
 cases s.b.all kC<;>cases decide (s.b≠[])<;>cases decide (s.b.length≤4)<;>rfl
theorem vi {b:UInt8}:kC b=true↔97≤b.toNat∧b.toNat≤122:=by
 unfold kC
 rw [Bool.and_eq_true,decide_eq_true_iff,decide_eq_true_iff,UInt8.le_iff_toNat_le,UInt8.le_iff_toNat_le]
 rfl
theorem ae2 (x:Int):ji x=some (decide (x<97∨122<x)):=by
 unfold ji
 by_cases h:x<97<;>simp [h]
theorem aj1 (s:ByteArray) (p:Nat→Bool) (hp:∀ x:Nat,p x=decide (x<97∨122<x)):∀ (f pos:Nat),s.size - pos≤f→pos≤s.size→(Lib.idxFuncFrom p true s f pos<0↔(s.data.toList.drop pos).all kC=true):=by
 have hsz:s.data.toList.length=s.size:=by rw [Array.length_toList];rfl
 intro f
 induction f with
 | zero =>
  intro pos h h2
  have:pos=s.size:=by omega
  subst this
  have:s.data.toList.drop s.size=[]:=List.drop_eq_nil_of_le (by omega)
  rw [this]
  simp [Lib.idxFuncFrom]
 | succ f ih =>
  intro pos h h2
  unfold Lib.idxFuncFrom
  by_cases hlt:pos<s.size
  ·rw [if_pos hlt]
   have hl:pos<s.data.toList.length:=by omega
   have hd:s.data.toList.drop pos=s[pos]'hlt::s.data.toList.drop (pos+1):=by
    rw [List.drop_eq_getElem_cons hl];rfl
   rw [hd,List.all_cons]
   by_cases ha:(s[pos]'hlt).toNat<128
   ·rw [decode_ascii s pos hlt ha,hp]
    cases hb:kC (s[pos]'hlt) with
    | true =>
     have:=vi.1 hb
     rw [if_neg (by simp;omega),ih (pos+1) (by omega) (by omega)]
     simp
    | false =>
     have:¬ (97≤(s[pos]'hlt).toNat∧(s[pos]'hlt).toNat≤122):=λh=>by rw [vi.2 h] at hb;cases hb
     rw [if_pos (by simp;omega)]
     simp
   ·obtain ⟨h3, _⟩ := decode_high s pos hlt (by omega)
    rw [hp,if_pos (by simp;omega)]
    have:kC (s[pos]'hlt)=false:=by
     cases hb:kC (s[pos]'hlt) with
     | true=>have:=vi.1 hb;omega
     | false=>rfl
    rw [this]
    simp
  ·have : pos = s.size := by omega
   subst this
   have:s.data.toList.drop s.size=[]:=List.drop_eq_nil_of_le (by omega)
   rw [this,if_neg hlt]
   simp
theorem qz (n lo hi:Int):lF n lo hi=some (inB n lo hi):=by
 unfold lF inB
 by_cases h:lo≤n<;>simp [h]
theorem vf (n lo hi:Int):kv n lo hi=some (inB n lo hi):=by
 unfold kv inB
 by_cases h:lo≤n<;>simp [h]
theorem rz (s:Str):ju s=some (iL s):=by
 have hi:∃ n:Int,mA s (λy0=>ji y0)=some n∧(n<0↔s.b.all kC=true):=by
  unfold mA sN
  rw [if_pos λx _=>by show (ji (x:Int)).isSome=true;rw [ae2];rfl]
  refine ⟨_,rfl,?_⟩
  have:=aj1 ⟨s.b.toArray⟩ (λx=>(ji (x:Int)).getD false) (λx=>by show (ji (x:Int)).getD false=_;rw [ae2];show decide _=decide _;rw [decide_eq_decide];omega) (⟨s.b.toArray⟩:ByteArray).size 0 (by omega) (by omega)
  simpa [Lib.idxFunc] using this
 obtain ⟨n,h1,h2⟩:=hi
 unfold ju
 rw [qz,h1,zk,obS]
 simp only [obS]
 have h3:inB (s.b.length:Int) 1 4=(decide (s.b≠[])&&decide (s.b.length≤4)):=by
  have e1:decide ((1:Int)≤(s.b.length:Int))=decide (s.b≠[]):=by
   rw [decide_eq_decide]
   constructor
   ·intro h h';rw [h'] at h;simp at h
   ·intro h
    have:=List.length_pos_iff.2 h
    omega
  have e2:decide ((s.b.length:Int)≤4)=decide (s.b.length≤4):=by rw [decide_eq_decide];omega
  show (decide ((1:Int)≤(s.b.length:Int))&&decide ((s.b.length:Int)≤4))=_
  rw [e1,e2]
 have h4:decide (n<0)=s.b.all kC:=by
  cases hb:s.b.all kC with
  | true=>simp [h2.2 hb]
  | false =>
   have:¬ n<0:=λh=>by rw [h2.1 h] at hb;cases hb
   simp [this]
 rw [h3,h4]
 unfold iL o9
 cases s.b.all kC<;>cases decide (s.b≠[])<;>cases decide (s.b.length≤4)<;>rfl
end Prg
end Go.Wk
namespace Go.Wk
open Go
namespace Prg
set_option maxRecDepth 10000
def vD (acc:Nat) (l:List UInt8):Nat:=l.foldl (λn c=>n*10+(c.toNat - 48)) acc
theorem nh {b:UInt8}:jf b=true↔48≤b.toNat∧b.toNat≤57:=by
 unfold jf
 rw [Bool.and_eq_true,decide_eq_true_iff,decide_eq_true_iff,UInt8.le_iff_toNat_le,UInt8.le_iff_toNat_le]
 rfl
theorem am6:∀ (l:List UInt8) (acc:Nat),acc*10 ^ l.length≤vD acc l
 | [],acc=>by simp [vD]
 | c::l,acc=>by
  have h:=am6 l (acc*10+(c.toNat - 48))
  have e:vD acc (c::l)=vD (acc*10+(c.toNat - 48)) l:=rfl
  rw [e]
  refine Nat.le_trans ?_ h
  rw [List.length_cons,Nat.pow_succ,show acc*(10 ^ l.length*10)=(acc*10)*10 ^ l.length by rw [Nat.mul_comm (10 ^ l.length),Nat.mul_assoc]]
  exact Nat.mul_le_mul_right _ (Nat.le_add_right _ _)
theorem ak4:∀ (l:List UInt8) (acc:Nat),l.all jf=true→vD acc l<(acc+1)*10 ^ l.length
 | [],acc,_=>by simp [vD]
 | c::l,acc,h=>by
  rw [List.all_cons,Bool.and_eq_true,nh] at h
  have h1:=ak4 l (acc*10+(c.toNat - 48)) h.2
  have e:vD acc (c::l)=vD (acc*10+(c.toNat - 48)) l:=rfl
  rw [e]
  refine Nat.lt_of_lt_of_le h1 ?_
  rw [List.length_cons,Nat.pow_succ,show (acc+1)*(10 ^ l.length*10)=((acc+1)*10)*10 ^ l.length by rw [Nat.mul_comm (10 ^ l.length),Nat.mul_assoc]]
  exact Nat.mul_le_mul_right _ (by omega)
theorem ag1 (acc:Nat) (l:List UInt8) (c:UInt8):vD acc (l++[c])=vD acc l*10+(c.toNat - 48):=by simp [vD]
theorem wC:∀ (l:List UInt8) (acc:Nat),l.all jf=true→Lib.decFrom acc l=some (vD acc l)
 | [],_,_=>rfl
 | c::l,acc,h=>by
  rw [List.all_cons,Bool.and_eq_true,nh] at h
  have hd:Lib.digitVal c=some (c.toNat - 48):=by unfold Lib.digitVal;rw [if_pos h.1]
  show (match Lib.digitVal c with | some d=>Lib.decFrom (acc*10+d) l | none=>none)=_
  rw [hd]
  exact wC l _ h.2
theorem yk {s:Str} (h0:s.b≠[]) (hl:s.b.length≤18) (h:s.b.all jf=true):strconv_Atoi s=some (((vD 0 s.b:Nat):Int),()):=by
 unfold strconv_Atoi ab3
 rw [if_pos hl]
 obtain ⟨c,l,hc⟩:∃ c l,s.b=c::l:=by cases hs:s.b with | nil=>exact absurd hs h0 | cons c l=>exact ⟨c,l,rfl⟩
 have hd:Lib.decNat s.b=some (vD 0 s.b):=by
  unfold Lib.decNat
  rw [if_neg (by rw [hc];simp),wC s.b 0 h]
 rw [hc] at hd h ⊢
 rw [List.all_cons,Bool.and_eq_true,nh] at h
 have e1:(c == 45)=false:=by
  rw [beq_eq_false_iff_ne];rintro rfl;have:=h.1;simp at this
 have e2:(c == 43)=false:=by
  rw [beq_eq_false_iff_ne];rintro rfl;have:=h.1;simp at this
 show Option.map (λn=>(n,())) (if (c == 45)=true then (Lib.decNat l).map (λ(m:Nat)=>-(m:Int)) else if (c == 43)=true then (Lib.decNat l).map (λ(m:Nat)=>(m:Int)) else (Lib.decNat (c::l)).map (λ(m:Nat)=>(m:Int)))=_
 rw [e1,e2,hd]
 rfl
def qM (l:List UInt8):Bool:=decide (1<l.length)&&decide (l[0]?=some 48)
def mS (s:Str):Int:=if s.b≠[]∧s.b.all jf=true∧qM s.b=false∧vD 0 s.b≤255 then (vD 0 s.b:Nat) else -1
theorem vo {l:List UInt8} (hz:qM l=false) (hd:l.all jf=true) (hl:4≤l.length):255<vD 0 l:=by
 cases l with
 | nil=>simp at hl
 | cons c l =>
  rw [List.all_cons,Bool.and_eq_true,nh] at hd
  have h1:c≠48:=by
   rintro rfl
   unfold qM at hz
   simp at hz
   simp at hl
   rw [hz] at hl
   simp at hl
  have h2:c.toNat≠48:=λe=>h1 (UInt8.toNat_inj.1 e)
  have h3:=am6 l (c.toNat - 48)
  have e:vD 0 (c::l)=vD (c.toNat - 48) l:=by show vD (0*10+(c.toNat - 48)) l=_;rw [Nat.zero_mul,Nat.zero_add]
  rw [e]
  simp at hl
  have h4:10 ^ 3≤10 ^ l.length:=Nat.pow_le_pow_right (by decide) hl
  have h5:1*10 ^ l.length≤(c.toNat - 48)*10 ^ l.length:=Nat.mul_le_mul_right _ (by omega)
  omega
theorem vp (s:Str):mN s 255=some (mS s):=by
 unfold mN
 by_cases h0:s.b=[]
 ·have:s=mkS []:=Str.ext' h0
  subst this
  simp [mS,mkS]
 have h0':s≠mkS []:=λe=>h0 (by rw [e];rfl)
 obtain ⟨c,l,hc⟩:∃ c l,s.b=c::l:=by cases hs:s.b with | nil=>exact absurd hs h0 | cons c l=>exact ⟨c,l,rfl⟩
 have hg:fT s.b 0=some c:=by rw [hc];rfl
 have hz:(if decide (1<(s.b.length:Int)) then (fT s.b 0).bind λuA=>some (decide (uA=(48:UInt8))) else some false:Option Bool)=some (qM s.b):=by
  unfold qM
  rw [hg,obS]
  have:decide (s.b[0]?=some 48)=decide (c=48):=by rw [hc];simp
  rw [this]
  have e:decide (1<(s.b.length:Int))=decide (1<s.b.length):=by rw [decide_eq_decide];omega
  rw [e]
  cases decide (1<s.b.length)<;>rfl
 rw [hz]
 simp only [h0',decide_false,Bool.false_eq_true,if_false]
 by_cases h5:5<(s.b.length:Int)
 ·simp only [h5,decide_true,if_true,obS]
  unfold mS
  rw [if_neg]
  rintro ⟨_,h2,h3,h4⟩
  have:=vo h3 h2 (by omega)
  omega
 ·simp only [h5,decide_false,Bool.false_eq_true,if_false,obS]
  cases hzb:qM s.b with
  | true =>
   simp only [if_true]
   unfold mS
   rw [if_neg]
   rintro ⟨_,_,h3,_⟩
   rw [hzb] at h3;cases h3
  | false =>
   simp only [Bool.false_eq_true,if_false]
   rw [q9 (l9 (xs:=s.b) (body:=(λ(uB:Int) (uE:Unit)=>((fT (s).b uB).bind λuC=>(jL uC).bind λuD=>if !(uD) then some (.inr (-1)) else some (.inl ()):Option ((Unit) ⊕ (Int))))) (λb=>!jf b) (-1) (λl x r he=>by
    rw [he,iJ,obS,rn,obS]))]
   have e:s.b.any (λb=>!jf b)=!s.b.all jf:=by rw [List.not_all_eq_any_not]
   rw [e]
   cases hd:s.b.all jf with
   | false =>
    show some (-1:Int)=_
    unfold mS
    rw [if_neg]
    rintro ⟨_,h2,_⟩
    rw [hd] at h2;cases h2
   | true =>
    show (strconv_Atoi s).bind _=_
    rw [yk h0 (by omega) hd,obS]
    unfold mS
    by_cases h:vD 0 s.b≤255
    ·have e3 : ¬ (255 : Int) < ((vD 0 s.b : Nat) : Int) := by omega
     simp only [e3,decide_false,Bool.false_eq_true,if_false]
     rw [if_pos ⟨h0,hd,hzb,h⟩]
    ·have e3 : (255 : Int) < ((vD 0 s.b : Nat) : Int) := by omega
     simp only [e3,decide_true,if_true]
     rw [if_neg (λh'=>h h'.2.2.2)]
theorem bm4 {b:UInt8} (h:jf b=true):(b - (48:UInt8)).toNat=b.toNat - 48:=by
 have:=nh.1 h
 rw [UInt8.toNat_sub]
 have h48:(48:UInt8).toNat=48:=rfl
 omega
theorem y4 {s:Str} (hl:s.b.length≤17):forN (λ(uA:Int) (uB:Int)=>(((fT (s).b uA).bind λuC=>if decide (uC<(48:UInt8)) then some true else (fT (s).b uA).bind λuD=>some (decide ((57:UInt8)<uD)):Option (Bool)).bind λuE=>if uE then some (.inr (0,false)) else (fT (s).b uA).bind λuF=>some (.inl (w64 ((w64 (uB*10))+((((uF - (48:UInt8))).toNat:Int))))):Option ((Int) ⊕ (Int × Bool)))) (((s.b.length:Int):Int) - 0).toNat 0 0=if s.b.all jf then some (.inl ((vD 0 s.b:Nat):Int)) else some (.inr ((0:Int),false)):=by
 rcases jE (xs:=s.b) (body:=(λ(uA:Int) (uB:Int)=>(((fT (s).b uA).bind λuC=>if decide (uC<(48:UInt8)) then some true else (fT (s).b uA).bind λuD=>some (decide ((57:UInt8)<uD)):Option (Bool)).bind λuE=>if uE then some (.inr (0,false)) else (fT (s).b uA).bind λuF=>some (.inl (w64 ((w64 (uB*10))+((((uF - (48:UInt8))).toNat:Int))))):Option ((Int) ⊕ (Int × Bool))))) (s:=(0:Int)) (λl x=>l.all jf=true∧x=((vD 0 l:Nat):Int)) (λy=>y=((0:Int),false)∧s.b.all jf=false) ⟨rfl,rfl⟩ (λl c r x he hI=>by
  obtain ⟨h1,rfl⟩:=hI
  have hlen:=congrArg List.length he
  simp at hlen
  rw [he,iJ,obS,obS,obS]
  have hc1:(if decide (c<(48:UInt8)) then some true else some (decide ((57:UInt8)<c)):Option Bool)=some (!jf c):=by
   unfold jf
   have a1:decide ((48:UInt8)≤c)=!decide (c<(48:UInt8)):=by
    rw [← decide_not,decide_eq_decide];exact UInt8.not_lt.symm
   have a2:decide (c≤(57:UInt8))=!decide ((57:UInt8)<c):=by
    rw [← decide_not,decide_eq_decide];exact UInt8.not_lt.symm
   rw [a1,a2]
   cases decide (c<(48:UInt8))<;>simp
  rw [hc1,obS]
  cases hd:jf c with
  | false =>
   refine .inr ⟨_,rfl,rfl,?_⟩
   rw [List.all_append,List.all_cons,hd];simp
  | true =>
   refine .inl ⟨_,rfl,by rw [List.all_append,h1,List.all_cons,hd];rfl,?_⟩
   have hv:=ak4 l 0 h1
   have hp:(10:Nat) ^ l.length≤10 ^ 16:=Nat.pow_le_pow_right (by decide) (by omega)
   have hcd:=nh.1 hd
   rw [ag1,bm4 hd,gu (n:=((vD 0 l:Nat):Int)*10) (by omega) (by omega),gu (by omega) (by omega)]
   omega) with ⟨x,h1,h2,rfl⟩ | ⟨y,h1,rfl,h2⟩
 ·rw [h1,h2];rfl
 ·rw [h1,h2];rfl
theorem xL (s:Str):∃ n ok,nC s=some (n,ok)∧(ok&&inB n 0 255)=decide (0≤mS s)∧(0≤mS s→n=mS s):=by
 have hneg:∀ {p:Prop},mS s=-1→(0≤mS s→p):=λh h'=>by omega
 unfold nC
 cases hs:s.b with
 | nil =>
  have:mS s=-1:=by unfold mS;rw [hs];simp
  refine ⟨0,false,?_,by rw [this];rfl,hneg this⟩
  simp [hs]
 | cons c l =>
  have hg:fT (c::l) 0=some c:=rfl
  have h1:(if decide (0<((c::l).length:Int)) then (fT (c::l) 0).bind λuB=>some (decide (uB=(45:UInt8))) else some false:Option Bool)=some (decide (c=45)):=by
   rw [if_pos (by simp),hg,obS]
  rw [h1,obS]
  have hz2:∀ (t:Str) (d:UInt8) (m:List UInt8) (ng:Bool),t.b=d::m→(if decide (((t).b.length:Int)=0) then some true else if decide (17<((t).b.length:Int)) then some true else (fT (t).b 0).bind λuC=>if decide (uC=(48:UInt8)) then (if decide (1<((t).b.length:Int)) then some true else some ng) else some false:Option Bool)=some (decide (17<t.b.length)||(decide (d=48)&&(decide (1<t.b.length)||ng))):=λt d m ng ht=>by
   have hg2:fT t.b 0=some d:=by rw [ht];rfl
   have a0:¬ ((t.b.length:Int)=0):=by rw [ht];simp;omega
   have a1:decide (17<(t.b.length:Int))=decide (17<t.b.length):=by rw [decide_eq_decide];omega
   have a2:decide (1<(t.b.length:Int))=decide (1<t.b.length):=by rw [decide_eq_decide];omega
   simp only [a0,decide_false,Bool.false_eq_true,if_false,a1,a2,hg2,obS]
   cases decide (17<t.b.length)<;>cases decide (d=48)<;>cases decide (1<t.b.length)<;>rfl
  by_cases hm:c=45
  ·subst hm
   have hI:mS s=-1:=by
    unfold mS
    rw [if_neg]
    rintro ⟨_,h2,_⟩
    rw [hs,List.all_cons] at h2
    simp [jf] at h2
   obtain ⟨t,ht,htb⟩:∃ t,ot s 1 (s.b.length:Int)=some t∧t.b=l:=by
    refine ⟨_,ku.2 ⟨⟨by omega,by rw [hs];simp;omega,by omega⟩,rfl⟩,?_⟩
    show ((s.b.take _).drop _)=l
    rw [hs];simp
   have hsub:(if decide ((45:UInt8)=45) then (ot s 1 (((45:UInt8)::l).length:Int)).bind λuA=>some uA else some s:Option Str)=some t:=by
    rw [hs] at ht
    rw [if_pos (by decide),ht];rfl
   rw [hsub,obS]
   cases hl:l with
   | nil =>
    rw [hl] at htb
    refine ⟨0,false,?_,by rw [hI];rfl,hneg hI⟩
    simp [htb]
   | cons d m =>
    rw [hl] at htb
    rw [hz2 t d m _ htb,obS]
    cases hb:(decide (17<t.b.length)||(decide (d=48)&&(decide (1<t.b.length)||decide ((45:UInt8)=45)))) with
    | true=>exact ⟨0,false,rfl,by rw [hI];rfl,hneg hI⟩
    | false =>
     simp only [Bool.or_eq_false_iff,decide_eq_false_iff_not] at hb
     simp only [Bool.false_eq_true,if_false]
     rw [q9 (y4 (s:=t) (by omega))]
     cases hd:t.b.all jf with
     | false=>exact ⟨0,false,rfl,by rw [hI];rfl,hneg hI⟩
     | true =>
      have h48:d≠48:=by
       rintro rfl
       simp at hb
      rw [htb,List.all_cons,Bool.and_eq_true,nh] at hd
      have hlen:t.b.length≤17:=by omega
      have hv:=am6 m (d.toNat - 48)
      have e:vD 0 t.b=vD (d.toNat - 48) m:=by rw [htb];show vD (0*10+(d.toNat - 48)) m=_;rw [Nat.zero_mul,Nat.zero_add]
      have h2:d.toNat≠48:=λe=>h48 (UInt8.toNat_inj.1 e)
      have h5:1*10 ^ m.length≤(d.toNat - 48)*10 ^ m.length:=Nat.mul_le_mul_right _ (by omega)
      have h6:0<10 ^ m.length:=Nat.pow_pos (by decide)
      have h7:=ak4 t.b 0 (by rw [htb,List.all_cons,Bool.and_eq_true,nh];exact hd)
      have h8:(10:Nat) ^ t.b.length≤10 ^ 17:=Nat.pow_le_pow_right (by decide) hlen
      refine ⟨-((vD 0 t.b:Nat):Int),true,?_,?_,hneg hI⟩
      ·have hw : w64 (0 - ((vD 0 t.b : Nat) : Int)) = -((vD 0 t.b : Nat) : Int) := by rw [gu (by omega) (by omega), Int.zero_sub]
       simp only [if_true,obS,Sum.elim_inl,decide_true,hw]
      ·rw [hI]
       have h9:decide (0≤-((vD 0 t.b:Nat):Int))=false:=by rw [decide_eq_false_iff_not];omega
       unfold inB
       rw [h9];rfl
  ·have hsub : (if decide (c = 45) then (ot s 1 ((c :: l).length : Int)).bind fun uA => some uA else some s : Option Str) = some s := by rw [if_neg (by simpa using hm)]
   rw [hsub,obS,hz2 s c l _ hs,obS]
   have hcm:decide (c=45)=false:=by simpa using hm
   rw [hcm,Bool.or_false]
   have hzb:qM s.b=(decide (c=48)&&decide (1<s.b.length)):=by
    unfold qM
    rw [Bool.and_comm,hs];simp
   rw [← hzb]
   cases hb:(decide (17<s.b.length)||qM s.b) with
   | true =>
    have hI:mS s=-1:=by
     unfold mS
     rw [if_neg]
     rintro ⟨_,h2,h3,h4⟩
     rw [h3,Bool.or_false,decide_eq_true_iff] at hb
     have:=vo h3 h2 (by omega)
     omega
    exact ⟨0,false,rfl,by rw [hI];rfl,hneg hI⟩
   | false =>
    rw [Bool.or_eq_false_iff,decide_eq_false_iff_not] at hb
    simp only [Bool.false_eq_true,if_false]
    rw [q9 (y4 (s:=s) (by omega))]
    cases hd:s.b.all jf with
    | false =>
     have hI:mS s=-1:=by
      unfold mS
      rw [if_neg]
      rintro ⟨_,h2,_⟩
      rw [hd] at h2;cases h2
     exact ⟨0,false,rfl,by rw [hI];rfl,hneg hI⟩
    | true =>
     refine ⟨((vD 0 s.b:Nat):Int),true,rfl,?_,λh=>?_⟩
     ·unfold mS
      by_cases h:vD 0 s.b≤255
      ·rw [if_pos ⟨by rw [hs]; simp, hd, hb.2, h⟩]
       have a:((vD 0 s.b:Nat):Int)≤255:=by omega
       simp [inB,a]
      ·rw [if_neg (λh'=>h h'.2.2.2)]
       have a:¬ ((vD 0 s.b:Nat):Int)≤255:=by omega
       simp [inB,a]
     ·unfold mS at h ⊢
      split
      ·rfl
      ·rename_i h';rw [if_neg h'] at h;omega
end Prg
end Go.Wk
namespace Go.Wk
open Go
namespace Prg
set_option maxRecDepth 10000
def k9 (w:ep):Bool :=
 if w.kind=1 then iL w.text else if w.kind=2 then decide (0≤mS w.text) else if w.kind=3 then (match w.text.b with | [c]=>decide (c∈nI) | _=>false) else if w.kind=4 then o9 w.text else false
def xF (w:ep):Int:=if w.kind=2 then mS w.text else -1
theorem rK (c:UInt8):∀ l:List UInt8,0≤Lib.indexByte l c↔c∈l
 | []=>by simp [Lib.indexByte]
 | b::l=>by
  have ih:=rK c l
  have hg:=Lib.indexByte_ge l c
  unfold Lib.indexByte
  by_cases h:b=c
  ·subst h;simp
  ·have h1:(b == c)=false:=beq_eq_false_iff_ne.2 h
   rw [h1]
   simp only [Bool.false_eq_true,if_false,List.mem_cons]
   by_cases h2:Lib.indexByte l c=-1
   ·have h3 : (Lib.indexByte l c == -1) = true := by rw [h2]; rfl
    rw [h3]
    simp only [if_true]
    rw [h2] at ih
    constructor
    ·intro h';omega
    ·rintro (h' | h')
     ·exact absurd h'.symm h
     ·have:=ih.2 h';omega
   ·have h3:(Lib.indexByte l c == -1)=false:=beq_eq_false_iff_ne.2 h2
    rw [h3]
    simp only [Bool.false_eq_true,if_false]
    constructor
    ·intro h';exact .inr (ih.1 (by omega))
    ·rintro (h' | h')
     ·exact absurd h'.symm h
     ·have:=ih.2 h';omega
theorem sU (w:ep):kI w=some (k9 w):=by
 unfold kI k9
 rw [rz,vp,zk,obS,obS,obS]
 by_cases h1:w.kind=1
 ·simp [h1]
 by_cases h2:w.kind=2
 ·simp [h2]
 by_cases h3:w.kind=3
 ·simp only [h3, decide_true, if_true, show ((3 : Int) = 1) = False by simp, show ((3 : Int) = 2) = False by simp, decide_false, Bool.false_eq_true, if_false]
  cases hb:w.text.b with
  | nil=>simp
  | cons c l =>
   cases l with
   | nil =>
    have:mO (mkS [40,41,123,125,59,44,43,45,42,47,37,60,61,38,33,64]) w.text=some (decide (c∈nI)):=by
     unfold mO qp
     rw [hb]
     show some (decide (0≤Lib.indexByte nI c))=_
     congr 1
     exact decide_eq_decide.2 (rK c nI)
    simp [this]
   | cons d l=>simp;omega
 by_cases h4:w.kind=4
 ·simp [h4,o9]
 ·simp [h1,h2,h3,h4]
theorem bo6 (b:UInt8):decide (kV b=3)=decide (b∈nI):=by
 cases h1:kC b<;>cases h2:jf b<;>by_cases h3:b∈nI<;>by_cases h4:b=32∨b=10<;>simp [kV,h1,h2,h3,h4]
 all_goals
  have key:∀ c∈nI,kC c=false∧jf c=false:=by decide
  have:=key b h3
  simp_all
theorem sy (w:ep):kF w=some (k9 w):=by
 unfold kF k9
 rw [qe,zu,obS,obS]
 by_cases h1:w.kind=1
 ·simp [h1]
 by_cases h2:w.kind=2
 ·simp only [h2, decide_true, if_true, show ((2 : Int) = 1) = False by simp, decide_false, Bool.false_eq_true, if_false]
  obtain ⟨n,ok,e1,e2,_⟩:=xL w.text
  rw [e1,obS,vf,obS,← e2]
  cases ok<;>rfl
 by_cases h3:w.kind=3
 ·simp only [h3, decide_true, if_true, show ((3 : Int) = 1) = False by simp, show ((3 : Int) = 2) = False by simp, decide_false, Bool.false_eq_true, if_false]
  cases hb:w.text.b with
  | nil=>simp
  | cons c l =>
   cases l with
   | nil =>
    have:fT [c] 0=some c:=rfl
    simp [this,nr,bo6]
   | cons d l=>simp;omega
 by_cases h4:w.kind=4
 ·simp [h4]
 ·simp [h1,h2,h3,h4]
theorem ag6 (w:ep):me w=some (xF w):=by
 unfold me xF
 rw [vp]
 by_cases h:w.kind=2<;>simp [h]
theorem zg (w:ep):mi w=some (xF w):=by
 unfold mi xF
 by_cases h:w.kind=2
 ·obtain ⟨n,ok,e1,e2,e3⟩:=xL w.text
  simp only [h,ne_eq,not_true_eq_false,decide_false,Bool.false_eq_true,if_false,if_true,sy,e1,obS]
  have:k9 w=decide (0≤mS w.text):=by unfold k9;rw [if_neg (by rw [h];decide),if_pos h]
  rw [this]
  by_cases h0:0≤mS w.text
  ·simp [h0,e3 h0]
  ·have:mS w.text=-1:=by
    unfold mS at h0 ⊢
    split
    ·rename_i h';rw [if_pos h'] at h0;omega
    ·rfl
   simp [h0,this]
 ·simp [h]
def toS (l:List UInt8):Str:=if h:l.length≤140737488355328 then ⟨l,h⟩ else mkS []
theorem tx {l:List UInt8} (h:l.length≤140737488355328):(toS l).b=l:=by unfold toS;rw [dif_pos h]
theorem bh4 {s:Str}:toS s.b=s:=by unfold toS;rw [dif_pos s.h]
def p6 (c:UInt8) (s:Str):Int:=if o9 s then 4 else if kC c then 1 else if jf c then 2 else 3
theorem rv {s:Str} {c:UInt8} {l:List UInt8} (hs:s.b=c::l) (h:o9 s=true):kC c=true:=by
 have hm:s∈fO:=of_decide_eq_true h
 have key:∀ k∈fO,∃ c l,k.b=c::l∧kC c=true:=by
  intro k hk
  unfold fO at hk
  simp only [List.mem_cons,List.not_mem_nil,or_false] at hk
  rcases hk with rfl | rfl | rfl | rfl | rfl | rfl | rfl | rfl | rfl<;>exact ⟨_,_,rfl,by decide⟩
 obtain ⟨c',l',h1,h2⟩:=key s hm
 rw [hs] at h1
 cases h1;exact h2
theorem vj {c:UInt8} (h:kC c=true):jf c=false:=by
 cases hd:jf c with
 | false=>rfl
 | true=>have:=vi.1 h;have:=nh.1 hd;omega
theorem bb3 {s:Str} {c:UInt8} {l:List UInt8} (hs:s.b=c::l):nB s=some ⟨p6 c s,s⟩:=by
 unfold nB p6
 have hg:fT s.b 0=some c:=by rw [hs];rfl
 rw [hg,obS,rn,zk,obS,obS,obS,tg,obS]
 show (if jf c then some (⟨2,s⟩:ep) else if o9 s then some ⟨4,s⟩ else if kC c then some ⟨1,s⟩ else some ⟨3,s⟩)=_
 cases hk:o9 s with
 | true=>rw [vj (rv hs hk)];rfl
 | false=>cases hl:kC c<;>cases hd:jf c<;>first | rfl | (rw [vj hl] at hd;cases hd)
theorem aj8 {s:Str} {c:UInt8} {l:List UInt8} (hs:s.b=c::l) (hc:kV c≠0) (hc4:kV c≠4):k7 s=some ⟨p6 c s,s⟩:=by
 unfold k7 p6
 have hg:fT s.b 0=some c:=by rw [hs];rfl
 rw [hg,obS,nr,zu,obS,obS]
 cases hk:o9 s with
 | true=>rfl
 | false =>
  show some (⟨kV c,s⟩:ep)=_
  have:kV c=if kC c then 1 else if jf c then 2 else 3:=by
   revert hc hc4
   unfold kV
   cases kC c<;>cases jf c<;>(try by_cases h3:c∈nI)<;>(try by_cases h4:c=32∨c=10)<;>simp [*]
  rw [this];rfl
end Prg
end Go.Wk
namespace Go.Wk
open Go
namespace Prg
set_option maxRecDepth 10000
def j9 (c:UInt8) (x:UInt8):Bool:=if kC c then kC x else if jf c then jf x else false
def qD (c:UInt8) (l:List UInt8):ep:=⟨p6 c (toS (c::l)),toS (c::l)⟩
def tM (c:UInt8):Bool:=decide (c=32∨c=10)
theorem sG (p:UInt8→Bool):∀ l:List UInt8,(l.dropWhile p).length≤l.length
 | []=>Nat.le_refl _
 | a::l=>by
  rw [List.dropWhile_cons]
  split
  ·exact Nat.le_trans (sG p l) (Nat.le_succ _)
  ·exact Nat.le_refl _
def tok (l:List UInt8):Option (List ep):=match l with
 | []=>some []
 | c :: r => if tM c then tok r else
  if k9 (qD c (r.takeWhile (j9 c))) then (tok (r.dropWhile (j9 c))).map (qD c (r.takeWhile (j9 c))::·) else none
termination_by l.length
decreasing_by
 ·simp
 ·exact Nat.lt_succ_of_le (sG _ _)
theorem qA:tok []=some []:=by rw [tok]
theorem p4 (c : UInt8) (r : List UInt8) : tok (c :: r) = if tM c then tok r else
  if k9 (qD c (r.takeWhile (j9 c))) then (tok (r.dropWhile (j9 c))).map (qD c (r.takeWhile (j9 c))::·) else none:=by rw [tok]
def r9 (s:Str):Option (List ep):=if s.b.length≤3000 then (tok s.b).filter (λws=>decide (ws.length≤600)) else none
def yp (s:Str):List ep × Bool:=match r9 s with
 | some ws=>(ws,true)
 | none=>([],false)
theorem zO {s:Str} (hs:s.b.length≤3000) (p:UInt8→Bool) {body:Int→Option (Int ⊕ Int)}
  (hb:∀ k:Int,body k=(if decide (k<(s.b.length:Int)) then (fT s.b k).bind λx=>some (p x) else some false:Option Bool).bind λt=>if t then some (.inl (w64 (k+1))) else some (.inr k)) :
  ∀ (l:List UInt8) (k:Nat),s.b.drop k=l→k≤s.b.length→fy body (k:Int)=some ((k+(l.takeWhile p).length:Nat):Int):=by
 intro l
 induction l with
 | nil =>
  intro k he hk
  have:s.b.length≤k:=List.drop_eq_nil_iff.1 he
  refine fx ?_
  rw [hb,if_neg (by simp;omega)]
  simp
 | cons c l ih =>
  intro k he hk
  have hlt:k<s.b.length:=by
   rcases Nat.lt_or_ge k s.b.length with h | h
   ·exact h
   ·rw [List.drop_eq_nil_of_le h] at he;cases he
  have hg:fT s.b (k:Int)=some c:=by
   rw [oo]
   have:=congrArg (λl=>l[0]?) he
   simpa using this
  have hd:s.b.drop (k+1)=l:=by rw [← List.drop_drop,he];rfl
  rw [List.takeWhile_cons]
  cases hp:p c with
  | true =>
   have:=ih (k+1) hd (by omega)
   rw [iu (s':=((k+1:Nat):Int))]
   ·rw [this];simp;omega
   ·rw [hb, if_pos (by simp; omega), hg, obS, hp, obS, if_pos rfl, gu (by omega) (by omega)]
    rfl
  | false =>
   refine fx ?_
   rw [hb,if_pos (by simp;omega),hg,obS,hp,obS]
   simp
theorem xR (p:UInt8→Bool) (l:List UInt8):l.drop (l.takeWhile p).length=l.dropWhile p:=by
 conv=>lhs;arg 2;rw [← List.takeWhile_append_dropWhile (p:=p) (l:=l)]
 rw [List.drop_left]
theorem ac8 {s:Str} {k:Nat} {c:UInt8} {r:List UInt8} (p:UInt8→Bool) (he:s.b.drop k=c::r) (hk:k+1+(r.takeWhile p).length≤s.b.length):ot s (k:Int) ((k+1+(r.takeWhile p).length:Nat):Int)=some (toS (c::r.takeWhile p)):=by
 refine ku.2 ⟨⟨by omega,by omega,by omega⟩,Str.ext' ?_⟩
 have hl:(c::r.takeWhile p).length≤140737488355328:=by
  have:=s.h
  simp;omega
 rw [tx hl]
 show (s.b.take _).drop _=_
 rw [List.drop_take,show ((k:Int)).toNat=k by omega,he,show (((k+1+(r.takeWhile p).length:Nat):Int)).toNat - k=(r.takeWhile p).length+1 by omega,List.take_succ_cons]
 congr 1
 conv=>lhs;arg 2;rw [← List.takeWhile_append_dropWhile (p:=p) (l:=r)]
 rw [List.take_left]
theorem az3 {c x:UInt8} (hc:tM c=false) (h0:kV c≠0):(decide (kV x=kV c)&&decide (kV c<3))=j9 c x:=by
 unfold j9
 cases h1:kC c with
 | true =>
  have:kV c=1:=by unfold kV;rw [h1];rfl
  rw [this,bl2];simp
 | false =>
  cases h2:jf c with
  | true =>
   have e:kV c=2:=by unfold kV;rw [h1,h2];rfl
   have e2:decide (kV x=2)=jf x:=by
    cases h3:kC x<;>cases h4:jf x<;>by_cases h5:x∈nI<;>by_cases h6:x=32∨x=10<;>simp [kV,h3,h4,h5,h6]
    all_goals (have:=vj h3;rw [h4] at this;cases this)
   rw [e,e2];simp
  | false =>
   have:¬ kV c<3:=by
    revert h0
    unfold kV
    rw [h1,h2]
    by_cases h5:c∈nI<;>by_cases h6:c=32∨c=10<;>simp [h5,h6]
   simp [this]
theorem ac3 (c:UInt8):tM c=decide (kV c=4):=by
 unfold tM
 by_cases h:c=32∨c=10
 ·rcases h with rfl | rfl<;>decide
 ·rw [decide_eq_false h]
  symm
  rw [decide_eq_false_iff_not]
  unfold kV
  cases kC c<;>cases jf c<;>by_cases h5:c∈nI<;>simp [h,h5]
def ai7 (acc:List ep) (o:Option (List ep)):(List ep × Bool) ⊕ List ep:=match o with
 | some ws=>if acc.length+ws.length≤600 then .inr (acc++ws) else .inl ([],false)
 | none=>.inl ([],false)
theorem an8 {s:Str} (hs:s.b.length≤3000):∀ (n:Nat) (l:List UInt8) (k:Nat) (acc:List ep),l.length≤n→s.b.drop k=l→k≤s.b.length→acc.length≤600→fy (λ(uA:(List ep) × Int)=>(if decide (uA.2<(((s).b.length:Int))) then (((fT (s).b uA.2).bind λuO=>if decide (uO=(32:UInt8)) then some true else (fT (s).b uA.2).bind λuE=>some (decide (uE=(10:UInt8))):Option (Bool)).bind λuP=>if uP then some (.inl (uA.1,w64 (uA.2+1))) else ((fT (s).b uA.2).bind λuQ=>(jV uQ).bind λuF=>(if uF then some (λy0=>jV y0) else (fT (s).b uA.2).bind λuG=>(jL uG).bind λuH=>(if uH then some (λy0=>jL y0) else some (λy0=>lh y0):Option ((UInt8→Option Bool))).bind λuI=>some uI:Option ((UInt8→Option Bool))).bind λuJ=>some uJ:Option ((UInt8→Option Bool))).bind λuR=>((fy (S:=Int) (X:=Int) (λuB=>(if decide (uB<(((s).b.length:Int))) then (fT (s).b uB).bind λuC=>(uR uC).bind λuD=>some uD else some false:Option (Bool)).bind λuK=>if uK then some (.inl (w64 (uB+1))) else some (.inr uB)) (w64 (uA.2+1))).bind (λe0=>some e0):Option (Int)).bind λuL=>(ot s uA.2 uL).bind λuS=>(nB uS).bind λuM=>((kI uM).bind λuT=>if !(uT) then some true else some (decide (((uA.1.length:Int))=600)):Option (Bool)).bind λuU=>if uU then some (.inr ([],false)) else (fr uA.1 ([uM]:List ep)).bind λuV=>some (.inl (uV,uL)):Option (((List ep) × Int) ⊕ ((List ep) × Bool))).bind (Sum.elim (λuN=>some (.inl (uN.1,uN.2))) (λe0=>some (.inr (.inl e0)))) else some (.inr (.inr uA.1)):Option (((List ep) × Int) ⊕ (((List ep) × Bool) ⊕ (List ep))))) (acc,(k:Int))=some (ai7 acc (tok l)):=by
 intro n
 induction n with
 | zero =>
  intro l k acc hl he hk ha
  have:l=[]:=List.eq_nil_of_length_eq_zero (by omega)
  subst this
  have h1:s.b.length≤k:=List.drop_eq_nil_iff.1 he
  refine fx ?_
  dsimp only
  rw [if_neg (by simp;omega),qA]
  simp [ai7,ha]
 | succ n ih =>
  intro l k acc hl he hk ha
  cases l with
  | nil =>
   have h1:s.b.length≤k:=List.drop_eq_nil_iff.1 he
   refine fx ?_
   dsimp only
   rw [if_neg (by simp;omega),qA]
   simp [ai7,ha]
  | cons c r =>
   have hlt:k<s.b.length:=by
    rcases Nat.lt_or_ge k s.b.length with h | h
    ·exact h
    ·rw [List.drop_eq_nil_of_le h] at he;cases he
   have hg:fT s.b (k:Int)=some c:=by
    rw [oo]
    have:=congrArg (λl=>l[0]?) he
    simpa using this
   have hd:s.b.drop (k+1)=r:=by rw [← List.drop_drop,he];rfl
   have hrl:r.length+(k+1)=s.b.length:=by
    have:=congrArg List.length hd
    simp at this;omega
   have hblk:(if decide (c=(32:UInt8)) then some true else (fT s.b (k:Int)).bind λuE=>some (decide (uE=(10:UInt8))):Option Bool)=some (tM c):=by
    rw [hg,obS]
    unfold tM
    by_cases h:c=32<;>simp [h]
   rw [p4]
   cases hb:tM c with
   | true =>
    simp only [if_true]
    rw [iu (s':=(acc,((k+1:Nat):Int)))]
    ·exact ih r (k+1) acc (by simp at hl;omega) hd (by omega) ha
    ·dsimp only
     rw [if_pos (by simp;omega),hg,obS]
     rw [hg] at hblk
     rw [hblk,hb,obS,if_pos rfl,gu (by omega) (by omega)]
     rfl
   | false =>
    simp only [Bool.false_eq_true,if_false]
    have hsel:∃ f:UInt8→Option Bool,((jV c).bind λuF=>(if uF then some (λy0=>jV y0) else (fT s.b (k:Int)).bind λuG=>(jL uG).bind λuH=>(if uH then some (λy0=>jL y0) else some (λy0=>lh y0):Option ((UInt8→Option Bool))).bind λuI=>some uI:Option ((UInt8→Option Bool))).bind λuJ=>some uJ:Option (UInt8→Option Bool))=some f∧∀ x,f x=some (j9 c x):=by
     rw [tg,obS,hg,obS,rn,obS]
     unfold j9
     cases kC c with
     | true=>exact ⟨_,rfl,λx=>tg x⟩
     | false =>
      cases jf c with
      | true=>exact ⟨_,rfl,λx=>rn x⟩
      | false=>exact ⟨_,rfl,λx=>rfl⟩
    obtain ⟨f,hf1,hf2⟩:=hsel
    have hrun:=zO hs (j9 c) (body:=(λ(uB:Int)=>((if decide (uB<(((s).b.length:Int))) then (fT (s).b uB).bind λuC=>(f uC).bind λuD=>some uD else some false:Option (Bool)).bind λuK=>if uK then some (.inl (w64 (uB+1))) else some (.inr uB):Option ((Int) ⊕ (Int))))) (λk=>by rw [show (λuC=>(f uC).bind λuD=>some uD)=λx=>some (j9 c x) from funext λx=>by rw [hf2,obS]]) r (k+1) hd (by omega)
    have htl:(r.takeWhile (j9 c)).length≤r.length:=by
     exact (List.takeWhile_sublist _).length_le
    have hsub:=ac8 (s:=s) (k:=k) (j9 c) he (by omega)
    have hwl:(c::r.takeWhile (j9 c)).length≤140737488355328:=by have:=s.h;simp;omega
    have hw:=bb3 (s:=toS (c::r.takeWhile (j9 c))) (tx hwl)
    have hk1:w64 ((k:Int)+1)=((k+1:Nat):Int):=by rw [gu (by omega) (by omega)];rfl
    have hnext:s.b.drop (k+1+(r.takeWhile (j9 c)).length)=r.dropWhile (j9 c):=by rw [← List.drop_drop,hd,xR]
    have hw2:(⟨p6 c (toS (c::r.takeWhile (j9 c))),toS (c::r.takeWhile (j9 c))⟩:ep)=qD c (r.takeWhile (j9 c)):=rfl
    rw [hw2] at hw
    rw [hg] at hblk
    simp only [hg,obS] at hf1
    have hdl:=sG (j9 c) r
    cases hv:k9 (qD c (r.takeWhile (j9 c))) with
    | false =>
     refine fx ?_
     dsimp only
     rw [if_pos (by simp;omega),hg,obS,hblk,hb,obS]
     simp only [Bool.false_eq_true,if_false,obS]
     rw [hf1,obS,hk1,hrun,obS,obS,hsub,obS,hw,obS,sU,hv]
     rfl
    | true =>
     by_cases h6:acc.length=600
     ·rw [fx (x:=.inl ([],false))]
      ·simp only [if_true]
       cases tok (r.dropWhile (j9 c)) with
       | none=>rfl
       | some ws=>simp [ai7,h6]
      ·dsimp only
       rw [if_pos (by simp;omega),hg,obS,hblk,hb,obS]
       simp only [Bool.false_eq_true,if_false,obS]
       rw [hf1,obS,hk1,hrun,obS,obS,hsub,obS,hw,obS,sU,hv,h6]
       rfl
     ·rw [iu (s':=(acc++[qD c (r.takeWhile (j9 c))],((k+1+(r.takeWhile (j9 c)).length:Nat):Int)))]
      ·rw [ih (r.dropWhile (j9 c)) (k + 1 + (r.takeWhile (j9 c)).length) (acc ++ [qD c (r.takeWhile (j9 c))]) (by simp at hl; omega) hnext (by omega) (by simp; omega)]
       simp only [if_true]
       cases tok (r.dropWhile (j9 c)) with
       | none=>rfl
       | some ws =>
        unfold ai7
        simp only [Option.map_some,List.length_append,List.length_cons,List.length_nil,List.append_assoc,List.singleton_append]
        rw [show acc.length+(0+1)+ws.length=acc.length+(ws.length+1) by omega]
      ·have h6' : decide ((acc.length : Int) = 600) = false := by rw [decide_eq_false_iff_not]; omega
       dsimp only
       rw [if_pos (by simp;omega),hg,obS,hblk,hb,obS]
       simp only [Bool.false_eq_true,if_false,obS]
       rw [hf1,obS,hk1,hrun,obS,obS,hsub,obS,hw,obS,sU,hv,obS]
       simp only [Bool.not_true,Bool.false_eq_true,if_false,h6',obS]
       rw [jM (by simp;omega),obS]
       rfl
theorem oH (s:Str):jl s=some (yp s):=by
 unfold jl yp r9
 by_cases hs:s.b.length≤3000
 ·have h1 : ¬ (3000 : Int) < (s.b.length : Int) := by omega
  simp only [h1,decide_false,Bool.false_eq_true,if_false,hs,if_true]
  have:=an8 hs s.b.length s.b 0 [] (Nat.le_refl _) rfl (Nat.zero_le _) (by simp)
  rw [show ((0:Nat):Int)=0 from rfl] at this
  rw [q9 (q9 this)]
  cases tok s.b with
  | none=>rfl
  | some ws =>
   unfold ai7
   simp only [List.length_nil,Nat.zero_add,List.nil_append,Option.filter]
   by_cases h:ws.length≤600<;>simp [h]
 ·have h1 : (3000 : Int) < (s.b.length : Int) := by omega
  simp [h1,hs]
end Prg
end Go.Wk
namespace Go.Wk
open Go
namespace Prg
set_option maxRecDepth 10000
def aw2 (acc:List ep) (o:Option (List ep)):(List ep × Bool) ⊕ List ep:=match o with
 | some ws=>.inr (acc++ws)
 | none=>.inl ([],false)
theorem ao7 {s:Str} (hs:s.b.length≤3000):∀ (n:Nat) (l:List UInt8) (k:Nat) (acc:List ep),l.length≤n→s.b.drop k=l→k≤s.b.length→acc.length≤k→fy (λ(uA:(List ep) × Int)=>((if decide (uA.2<(((s).b.length:Int))) then some (decide ((((s).b.length:Int))≤3000)) else some false:Option (Bool)).bind λuH=>if uH then (fT (s).b uA.2).bind λuI=>(il uI).bind λuC=>((fy (S:=Int) (X:=Int) (λuB=>(if decide (uB<(((s).b.length:Int))) then (fT (s).b uB).bind λuD=>(il uD).bind λuE=>if decide (uE=uC) then some (decide (uC<3)) else some false else some false:Option (Bool)).bind λuG=>if uG then some (.inl (w64 (uB+1))) else some (.inr uB)) (w64 (uA.2+1))).bind (λe0=>some e0):Option (Int)).bind λuF=>(if decide (uC≠4) then (if decide (uC=0) then some true else (ot s uA.2 uF).bind λuJ=>(k7 uJ).bind λuK=>(kF uK).bind λuL=>some (!(uL)):Option (Bool)).bind λuM=>if uM then some (.inr (([]:List ep),false)) else (ot s uA.2 uF).bind λuN=>(k7 uN).bind λuO=>(fr uA.1 ([uO]:List ep)).bind λuP=>some (.inl uP) else some (.inl uA.1):Option (((List ep)) ⊕ ((List ep) × Bool))).bind (Sum.elim (λuQ=>some (.inl (uQ,uF))) (λe0=>some (.inr (.inl e0)))) else some (.inr (.inr uA.1)):Option (((List ep) × Int) ⊕ (((List ep) × Bool) ⊕ (List ep))))) (acc,(k:Int))=some (aw2 acc (tok l)):=by
 intro n
 have hend:∀ (k:Nat) (acc:List ep),s.b.drop k=[]→fy (λ(uA:(List ep) × Int)=>((if decide (uA.2<(((s).b.length:Int))) then some (decide ((((s).b.length:Int))≤3000)) else some false:Option (Bool)).bind λuH=>if uH then (fT (s).b uA.2).bind λuI=>(il uI).bind λuC=>((fy (S:=Int) (X:=Int) (λuB=>(if decide (uB<(((s).b.length:Int))) then (fT (s).b uB).bind λuD=>(il uD).bind λuE=>if decide (uE=uC) then some (decide (uC<3)) else some false else some false:Option (Bool)).bind λuG=>if uG then some (.inl (w64 (uB+1))) else some (.inr uB)) (w64 (uA.2+1))).bind (λe0=>some e0):Option (Int)).bind λuF=>(if decide (uC≠4) then (if decide (uC=0) then some true else (ot s uA.2 uF).bind λuJ=>(k7 uJ).bind λuK=>(kF uK).bind λuL=>some (!(uL)):Option (Bool)).bind λuM=>if uM then some (.inr (([]:List ep),false)) else (ot s uA.2 uF).bind λuN=>(k7 uN).bind λuO=>(fr uA.1 ([uO]:List ep)).bind λuP=>some (.inl uP) else some (.inl uA.1):Option (((List ep)) ⊕ ((List ep) × Bool))).bind (Sum.elim (λuQ=>some (.inl (uQ,uF))) (λe0=>some (.inr (.inl e0)))) else some (.inr (.inr uA.1)):Option (((List ep) × Int) ⊕ (((List ep) × Bool) ⊕ (List ep))))) (acc,(k:Int))=some (aw2 acc (tok [])):=λk acc he=>by
  have h1:s.b.length≤k:=List.drop_eq_nil_iff.1 he
  refine fx ?_
  dsimp only
  rw [if_neg (by simp;omega),qA]
  simp [aw2]
 induction n with
 | zero =>
  intro l k acc hl he hk ha
  have:l=[]:=List.eq_nil_of_length_eq_zero (by omega)
  subst this
  exact hend k acc he
 | succ n ih =>
  intro l k acc hl he hk ha
  cases l with
  | nil=>exact hend k acc he
  | cons c r =>
   have hlt:k<s.b.length:=by
    rcases Nat.lt_or_ge k s.b.length with h | h
    ·exact h
    ·rw [List.drop_eq_nil_of_le h] at he;cases he
   have hg:fT s.b (k:Int)=some c:=by
    rw [oo]
    have:=congrArg (λl=>l[0]?) he
    simpa using this
   have hd:s.b.drop (k+1)=r:=by rw [← List.drop_drop,he];rfl
   have hrl:r.length+(k+1)=s.b.length:=by
    have:=congrArg List.length hd
    simp at this;omega
   have hcond:(if decide ((k:Int)<(s.b.length:Int)) then some (decide ((s.b.length:Int)≤3000)) else some false:Option Bool)=some true:=by
    rw [if_pos (by simp;omega)];congr 1;rw [decide_eq_true_iff];omega
   have hk1:w64 ((k:Int)+1)=((k+1:Nat):Int):=by rw [gu (by omega) (by omega)];rfl
   obtain ⟨q,hq⟩:∃ q,q=kV c:=⟨_,rfl⟩
   have hrun:=zO hs (λx=>decide (kV x=q)&&decide (q<3)) (body:=(λ(uB:Int)=>((if decide (uB<(((s).b.length:Int))) then (fT (s).b uB).bind λuD=>(il uD).bind λuE=>if decide (uE=q) then some (decide (q<3)) else some false else some false:Option (Bool)).bind λuG=>if uG then some (.inl (w64 (uB+1))) else some (.inr uB):Option ((Int) ⊕ (Int))))) (λk=>by
    rw [show (λuD=>(il uD).bind λuE=>if decide (uE=q) then some (decide (q<3)) else some false)=λx=>some (decide (kV x=q)&&decide (q<3)) from funext λx=>by
     rw [nr,obS];cases decide (kV x=q)<;>rfl]) r (k+1) hd (by omega)
   subst hq
   rw [p4]
   cases hb:tM c with
   | true =>
    have h4:kV c=4:=of_decide_eq_true (by rw [← ac3];exact hb)
    have hp:(λx=>decide (kV x=kV c)&&decide (kV c<3))=λ_=>false:=funext λx=>by rw [h4];simp
    have ht:r.takeWhile (λ_:UInt8=>false)=[]:=by cases r<;>rfl
    rw [hp,ht] at hrun
    simp only [if_true]
    rw [iu (s':=(acc,((k+1:Nat):Int)))]
    ·exact ih r (k+1) acc (by simp at hl;omega) hd (by omega) (by omega)
    ·dsimp only
     rw [hcond,obS,if_pos rfl,hg,obS,nr,obS,hk1,hrun,obS,obS,h4]
     rfl
   | false =>
    have h4:kV c≠4:=λh=>by rw [ac3,h] at hb;simp at hb
    simp only [Bool.false_eq_true,if_false]
    by_cases h0:kV c=0
    ·have hv:k9 (qD c (r.takeWhile (j9 c)))=false:=by
      have hl:kC c=false:=by cases h:kC c with | false=>rfl | true=>unfold kV at h0;rw [h] at h0;simp at h0
      have hdg:jf c=false:=by cases h:jf c with | false=>rfl | true=>unfold kV at h0;rw [hl,h] at h0;simp at h0
      have hsg:c ∉ nI:=λh=>by unfold kV at h0;rw [hl,hdg] at h0;simp [h] at h0
      have ht:r.takeWhile (j9 c)=[]:=by
       have:j9 c=λ_=>false:=funext λx=>by unfold j9;rw [hl,hdg];rfl
       rw [this];cases r<;>rfl
      rw [ht]
      have hk:o9 (toS [c])=false:=by
       cases h:o9 (toS [c]) with
       | false=>rfl
       | true=>have:=rv (tx (l:=[c]) (by simp)) h;rw [hl] at this;cases this
      have:qD c []=⟨3,toS [c]⟩:=by unfold qD p6;rw [hk,hl,hdg];rfl
      rw [this]
      unfold k9
      simp [tx (l:=[c]) (by simp),hsg]
     rw [hv]
     refine fx ?_
     dsimp only
     rw [hcond,obS,if_pos rfl,hg,obS,nr,obS,hk1,hrun,obS,obS,h0]
     rfl
    ·have hp:(λx=>decide (kV x=kV c)&&decide (kV c<3))=j9 c:=funext λx=>az3 hb h0
     rw [hp] at hrun
     have htl:(r.takeWhile (j9 c)).length≤r.length:=(List.takeWhile_sublist _).length_le
     have hsub:=ac8 (s:=s) (k:=k) (j9 c) he (by omega)
     have hwl:(c::r.takeWhile (j9 c)).length≤140737488355328:=by have:=s.h;simp;omega
     have hw:=aj8 (s:=toS (c::r.takeWhile (j9 c))) (tx hwl) h0 h4
     have hw2:(⟨p6 c (toS (c::r.takeWhile (j9 c))),toS (c::r.takeWhile (j9 c))⟩:ep)=qD c (r.takeWhile (j9 c)):=rfl
     rw [hw2] at hw
     have hdl:=sG (j9 c) r
     have hnext:s.b.drop (k+1+(r.takeWhile (j9 c)).length)=r.dropWhile (j9 c):=by rw [← List.drop_drop,hd,xR]
     have h4':decide (kV c≠4)=true:=decide_eq_true h4
     have h0':decide (kV c=0)=false:=decide_eq_false h0
     cases hv:k9 (qD c (r.takeWhile (j9 c))) with
     | false =>
      refine fx ?_
      dsimp only
      rw [hcond,obS,if_pos rfl,hg,obS,nr,obS,hk1,hrun,obS,obS,h4',h0']
      simp only [if_true,Bool.false_eq_true,if_false]
      rw [hsub,obS,hw,obS,sy,hv]
      rfl
     | true =>
      simp only [if_true]
      rw [iu (s':=(acc++[qD c (r.takeWhile (j9 c))],((k+1+(r.takeWhile (j9 c)).length:Nat):Int)))]
      ·rw [ih (r.dropWhile (j9 c)) (k + 1 + (r.takeWhile (j9 c)).length) (acc ++ [qD c (r.takeWhile (j9 c))]) (by simp at hl; omega) hnext (by omega) (by simp; omega)]
       cases tok (r.dropWhile (j9 c)) with
       | none=>rfl
       | some ws=>simp [aw2]
      ·dsimp only
       rw [hcond,obS,if_pos rfl,hg,obS,nr,obS,hk1,hrun,obS,obS,h4',h0']
       simp only [if_true,Bool.false_eq_true,if_false]
       rw [hsub,obS,hw,obS,sy,hv,obS,obS]
       simp only [Bool.not_true,Bool.false_eq_true,if_false]
       rw [obS,hw,obS,jM (by simp;omega),obS]
       rfl
theorem qB (s:Str):ma s=some (yp s):=by
 unfold ma yp r9
 by_cases hs:s.b.length≤3000
 ·have := ao7 hs s.b.length s.b 0 [] (Nat.le_refl _) rfl (Nat.zero_le _) (by simp)
  rw [show ((0:Nat):Int)=0 from rfl] at this
  rw [q9 (q9 this),if_pos hs]
  have h1:decide ((3000:Int)<(s.b.length:Int))=false:=by rw [decide_eq_false_iff_not];omega
  cases tok s.b with
  | none=>rfl
  | some ws =>
   show (if decide ((3000:Int)<(s.b.length:Int)) then some true else some (decide (600<(([]++ws:List ep).length:Int)))).bind _=_
   rw [h1]
   simp only [List.nil_append,Option.filter,Bool.false_eq_true,if_false,obS]
   by_cases h:ws.length≤600
   ·have : ¬ (600 : Int) < (ws.length : Int) := by omega
    simp [h,this]
   ·have : (600 : Int) < (ws.length : Int) := by omega
    simp [h,this]
 ·rw [if_neg hs]
  have h1:decide ((3000:Int)<(s.b.length:Int))=true:=by rw [decide_eq_true_iff];omega
  have h2:decide ((s.b.length:Int)≤3000)=false:=by rw [decide_eq_false_iff_not];omega
  rw [q9 (q9 (fx (x:=.inr []) (by
   dsimp only
   rw [h2]
   cases decide ((0:Int)<(s.b.length:Int))<;>rfl)))]
  show (if decide ((3000:Int)<(s.b.length:Int)) then some true else some (decide (600<(([]:List ep).length:Int)))).bind _=_
  rw [h1]
  rfl
end Prg
end Go.Wk
namespace Go.Wk
open Go
namespace Prg
set_option maxRecDepth 10000
theorem sL {P:eu→Prop} (h:∀ e:eu,(∀ k∈e.kids,P k)→P e):∀ e,P e:=by
 have:∀ (n:Nat) (e:eu),SizeOf.sizeOf e≤n→P e:=by
  intro n
  induction n with
  | zero=>intro e he;cases e;simp at he
  | succ n ih =>
   intro e he
   refine h e λk hk=>ih k ?_
   have:=List.sizeOf_lt_of_mem hk
   cases e
   simp at he this ⊢
   omega
 exact λe=>this _ e (Nat.le_refl _)
mutual
def iT:eu→Nat
 | ⟨_,_,_,ks⟩=>1+iz ks
def iz:List eu→Nat
 | []=>0
 | k::ks=>iT k+iz ks
end
theorem kq (e:eu):iT e=1+iz e.kids:=by cases e;rw [iT]
theorem ig (k:eu) (ks:List eu):iz (k::ks)=iT k+iz ks:=by rw [iz]
theorem j6:iz []=0:=by rw [iz]
theorem mD:∀ (l r:List eu),iz (l++r)=iz l+iz r
 | [],r=>by rw [j6,List.nil_append,Nat.zero_add]
 | k::l,r=>by rw [List.cons_append,ig,ig,mD l r];omega
theorem oV {k:eu}:∀ {l:List eu},k∈l→iT k≤iz l
 | a::l,h=>by
  rw [ig]
  rcases List.mem_cons.1 h with rfl | h
  ·omega
  ·have:=oV h;omega
def lvI (op:Int):Int:=if op=10 then 1 else if op=8∨op=9 then 2 else if op=3∨op=4 then 3 else if op=5∨op=6∨op=7 then 4 else if op=11∨op=12 then 5 else 6
def mh (op:Int):Int × Int:=if op=1∨op=2 then (0,0) else if op=11∨op=12 then (1,1) else if op=13 then (0,3) else (2,2)
def oP (e:eu):Bool:=inB e.op 1 13&&(inB (e.kids.length:Int) (mh e.op).1 (mh e.op).2&&((if e.op=2∨e.op=13 then iL e.name else decide (e.name=mkS []))&&(inB e.n_ 0 255&&decide (e.op=1∨e.n_=0))))
def gj:Nat→eu→Bool
 | 0,_=>false
 | d+1,e=>oP e&&e.kids.all (gj d)
def jN (e:eu):Bool:=gj 6 e&&decide (iT e≤30)
theorem zF {op:Int} (h:inB op 1 13=true):op=1∨op=2∨op=3∨op=4∨op=5∨op=6∨op=7∨op=8∨op=9∨op=10∨op=11∨op=12∨op=13:=by
 rw [kP] at h;omega
theorem y7 (op:Int):mP op=some (lvI op):=by
 unfold mP lvI
 by_cases h1:op=10
 ·simp [h1]
 by_cases h2:op=8
 ·simp [h2]
 by_cases h3:op=9
 ·simp [h3]
 by_cases h4:op=3
 ·simp [h4]
 by_cases h5:op=4
 ·simp [h5]
 by_cases h6:op=5
 ·simp [h6]
 by_cases h7:op=6
 ·simp [h7]
 by_cases h8:op=7
 ·simp [h8]
 by_cases h9:op=11
 ·simp [h9]
 by_cases h10:op=12
 ·simp [h10]
 simp [h1,h2,h3,h4,h5,h6,h7,h8,h9,h10]
theorem az8 (op:Int):oE op=some (mh op):=by
 unfold oE mh
 by_cases h1:op=1
 ·simp [h1]
 by_cases h2:op=2
 ·simp [h2]
 by_cases h3:op=11
 ·simp [h3]
 by_cases h4:op=12
 ·simp [h4]
 by_cases h5:op=13
 ·simp [h5]
 simp [h1,h2,h3,h4,h5]
def sgO (op:Int):fN:=(jg.get ez op).getD ⟨mkS [],0⟩
theorem aw1 {op:Int} (h:¬ (3≤op∧op≤10)):sgO op=⟨mkS [],0⟩:=by
 unfold sgO
 cases hg:jg.get ez op with
 | none=>rfl
 | some v =>
  exfalso
  have hm:=(o0 ez.nodup).1 hg
  unfold ez at hm
  simp only [List.mem_cons,Prod.mk.injEq,List.not_mem_nil,or_false] at hm
  omega
theorem zJ (op:Int):(sgO op).level=if 3≤op∧op≤10 then lvI op else 0:=by
 by_cases h:3≤op∧op≤10
 ·rw [if_pos h]
  have:op=3∨op=4∨op=5∨op=6∨op=7∨op=8∨op=9∨op=10:=by omega
  rcases this with rfl | rfl | rfl | rfl | rfl | rfl | rfl | rfl<;>rfl
 ·rw [if_neg h,aw1 h]
theorem rU (op:Int):kX op=some (lvI op):=by
  unfold kX
  show (if decide (0<(sgO op).level) then some (sgO op).level else _)=_
  rw [zJ]
  by_cases h:3≤op∧op≤10
  · rw [if_pos h]
    have : 0 < lvI op := by unfold lvI; repeat' split
                            all_goals omega
    simp [this]
  · rw [if_neg h]
    unfold lvI
    by_cases h1:op=11
    · simp [h1]
    by_cases h2:op=12
    · simp [h2]
    have:¬ op=10∧¬ (op=8∨op=9)∧¬ (op=3∨op=4)∧¬ (op=5∨op=6∨op=7):=by omega
    simp [h1,h2,this]
end Prg
end Go.Wk
namespace Go.Wk
open Go
namespace Prg
set_option maxRecDepth 10000
theorem ba6 (n:Int):nj n=some (inB n 0 255):=by
 unfold nj;rw [qz];rfl
theorem bm9 (op:Int):((jg.get ez op).getD (⟨mkS [],0⟩:fN)).level=if 3≤op∧op≤10 then lvI op else 0:=zJ op
theorem ai3 (e : eu) (most : Int) : jU e most = if oP e && decide (1 ≤ most) then
  (forN (λ(uD:Int) (uC:Int × Int)=>((fT e.kids uD).bind λuE=>(jU uE (w64 (most - 1))).bind λuA=>if !(uA.2.2) then some (.inr (0,0,false)) else some (.inl (w64 (uC.1+uA.1),(qQ uC.2 (w64 (uA.2.1+1))))):Option ((Int × Int) ⊕ (Int × Int × Bool)))) (((e.kids.length:Int):Int) - 0).toNat 0 (1,1)).bind (Sum.elim (λuB=>some (uB.1,uB.2,decide (uB.1≤30))) (λe0=>some e0)) else some (0,0,false):=by
 rw [jU]
 generalize (forN (λ(uD:Int) (uC:Int × Int)=>((fT e.kids uD).bind λuE=>(jU uE (w64 (most - 1))).bind λuA=>if !(uA.2.2) then some (.inr (0,0,false)) else some (.inl (w64 (uC.1+uA.1),(qQ uC.2 (w64 (uA.2.1+1))))):Option ((Int × Int) ⊕ (Int × Int × Bool)))) (((e.kids.length:Int):Int) - 0).toNat 0 (1,1)).bind (Sum.elim (λuB=>some (uB.1,uB.2,decide (uB.1≤30))) (λe0=>some e0))=L
 simp only [ba6,rz,qz,rU,bm9,obS]
 have em:decide (most<1)=!decide (1≤most):=by
  by_cases h:1≤most
  ·have : ¬ most < 1 := by omega
   simp [h,this]
  ·have : most < 1 := by omega
   simp [h,this]
 rw [em]
 generalize decide (1≤most)=b
 obtain ⟨op,n,nm,ks⟩:=e
 unfold oP
 dsimp only
 have hn:n=0→inB n 0 255=true:=λh=>by rw [h];rfl
 cases hop:inB op 1 13 with
 | true =>
  cases hc:inB (ks.length:Int) (mh op).1 (mh op).2
  all_goals rcases zF hop with rfl | rfl | rfl | rfl | rfl | rfl | rfl | rfl | rfl | rfl | rfl | rfl | rfl
  all_goals
   simp only [lvI,mh] at hc ⊢
   simp at hc ⊢
   cases iL nm<;>cases h3:inB n 0 255<;>cases b<;>by_cases h1:nm=mkS []<;>by_cases h2:n=0<;>first | (simp [h1,h2,hc];done) | (exfalso;rw [hn h2] at h3;cases h3)
 | false =>
  have:¬ (1≤op∧op≤13):=λh=>by rw [kP.2 h] at hop;cases hop
  have a1:op≠1:=by omega
  have a2:op≠2:=by omega
  have a3:op≠13:=by omega
  have a4:op≠11:=by omega
  have a5:op≠12:=by omega
  have a6:¬ (3≤op∧op≤10):=by omega
  simp [a1,a2,a3,a4,a5,a6]
def pbd:Nat→Nat
 | 0=>0
 | d+1=>1+3*pbd d
theorem ka {d:Nat} {e:eu} (h:gj (d+1) e=true):oP e=true∧∀ k∈e.kids,gj d k=true:=by
 rw [gj,Bool.and_eq_true,List.all_eq_true] at h;exact h
theorem sw {e:eu} (h:oP e=true):e.kids.length≤3:=by
  unfold oP at h
  simp only [Bool.and_eq_true] at h
  have h2:=kP.1 h.2.1
  have : (mh e.op).2 ≤ 3 := by unfold mh; repeat' split
                               all_goals simp
  omega
theorem xQ {n:Nat}:∀ {l:List eu},(∀ k∈l,iT k≤n)→iz l≤l.length*n
 | [],_=>by rw [j6];omega
 | k::l,h=>by
  have h1:=h k (by simp)
  have h2:=xQ (l:=l) λx hx=>h x (by simp [hx])
  rw [ig,List.length_cons,Nat.succ_mul];omega
theorem wR:∀ {d:Nat} {e:eu},gj d e=true→iT e≤pbd d
 | 0,e,h=>by rw [gj] at h;cases h
 | d+1,e,h=>by
  obtain ⟨h1,h2⟩:=ka h
  have h3:=xQ (n:=pbd d) (l:=e.kids) λk hk=>wR (h2 k hk)
  have h4:e.kids.length*pbd d≤3*pbd d:=Nat.mul_le_mul_right _ (sw h1)
  rw [kq,pbd];omega
theorem ay9:∀ (e:eu) (d:Int),d≤1000→-1000≤d→kZ e d=some (gj d.toNat e):=by
 intro e
 induction e using sL with
 | h e ih =>
  intro d hd hd2
  rw [kZ,az8,obS]
  simp only [vf,qe,obS]
  by_cases h1:d<1
  ·have : d.toNat = 0 := by omega
   rw [this,gj]
   simp [h1]
  obtain ⟨m,hdm⟩:∃ m:Nat,d=(m:Int)+1:=⟨d.toNat - 1,by omega⟩
  have hm:d.toNat=m+1:=by omega
  rw [hm,gj]
  have hk:∀ k∈e.kids,kZ k (w64 (d - 1))=some (gj m k):=by
   intro k hk
   rw [gu (by omega) (by omega),ih k hk _ (by omega) (by omega)]
   congr 2;omega
  have hl:forN (λ(uA:Int) (uD:Unit)=>((fT e.kids uA).bind λuB=>(kZ uB (w64 (d - 1))).bind λuC=>if !(uC) then some (.inr false) else some (.inl ()):Option ((Unit) ⊕ (Bool)))) (((e.kids.length:Int):Int) - 0).toNat 0 ()=if e.kids.all (gj m) then some (.inl ()) else some (.inr false):=by
   rw [l9 (xs:=e.kids) (body:=(λ(uA:Int) (uD:Unit)=>((fT e.kids uA).bind λuB=>(kZ uB (w64 (d - 1))).bind λuC=>if !(uC) then some (.inr false) else some (.inl ()):Option ((Unit) ⊕ (Bool))))) (λk=>!gj m k) false (λl x r he=>by
    rw [he,iJ,obS,hk x (by rw [he];simp),obS])]
   have:e.kids.any (λk=>!gj m k)=!e.kids.all (gj m):=by rw [List.not_all_eq_any_not]
   rw [this]
   cases e.kids.all (gj m)<;>rfl
  rw [hl]
  have e1:decide (d<1)=false:=by simp;omega
  rw [e1]
  unfold oP
  cases inB e.op 1 13 with
  | false=>rfl
  | true =>
  cases inB (e.kids.length:Int) (mh e.op).1 (mh e.op).2 with
  | false=>rfl
  | true =>
  have e2:(if decide (e.op=2) then some true else some (decide (e.op=13)):Option Bool)=some (decide (e.op=2∨e.op=13)):=by by_cases h:e.op=2<;>simp [h]
  simp only [Bool.false_eq_true,if_false,Bool.not_true,e2,obS,Bool.true_and]
  have hn:iL (mkS [])=false:=rfl
  have h0:e.n_=0→inB e.n_ 0 255=true:=λh=>by rw [h];rfl
  by_cases h:e.op=2∨e.op=13
  ·have h5 : ¬ e.op = 1 := by omega
   cases iL e.name<;>cases h3:inB e.n_ 0 255<;>cases e.kids.all (gj m)<;>by_cases h6:e.n_=0<;>first | (simp [h,h5,h6];done) | (exfalso;rw [h0 h6] at h3;cases h3)
  ·by_cases h7:e.name=mkS []
   ·rw [h7,hn]
    cases h3:inB e.n_ 0 255<;>cases e.kids.all (gj m)<;>by_cases h6:e.n_=0<;>by_cases h5:e.op=1<;>first | (simp [h,h5,h6];done) | (exfalso;rw [h0 h6] at h3;cases h3)
   ·cases iL e.name<;>cases h3:inB e.n_ 0 255<;>cases e.kids.all (gj m)<;>by_cases h6:e.n_=0<;>by_cases h5:e.op=1<;>first | (simp [h,h5,h6,h7];done) | (exfalso;rw [h0 h6] at h3;cases h3)
theorem ap4:∀ (e:eu),iT e≤1000000→kz e=some (iT e:Int):=by
 intro e
 induction e using sL with
 | h e ih =>
  intro he
  rw [kz]
  rw [kq] at he ⊢
  rcases jE (xs := e.kids) (body := (fun (uA : Int) (uB : Int) => ((fT e.kids uA).bind fun uC => (kz uC).bind fun uD => some (.inl (w64 (uB + uD))) : Option ((Int) ⊕ (Empty))))) (s := 1) (fun l s => s = ((1 + iz l : Nat) : Int)) (fun _ => False) (by rw [j6]; rfl) (fun l x r s hx hI => .inl (by
   have hp:=oV (k:=x) (l:=e.kids) (by rw [hx];simp)
   have hp2:iz e.kids=iz l+(iT x+iz r):=by rw [hx,mD,ig]
   refine ⟨_,?_,rfl⟩
   subst hI
   have hw:w64 (((1+iz l:Nat):Int)+(iT x:Int))=((1+iz (l++[x]):Nat):Int):=by
    rw [gu (by omega) (by omega),mD,ig,j6];omega
   rw [show fT e.kids (l.length:Int)=some x by rw [hx,iJ],obS,ih x (by rw [hx];simp) (by omega),obS,hw])) with ⟨s,h1,h2⟩ | ⟨y,h1,h2⟩
  ·rw [h1,h2];rfl
  ·exact h2.elim
theorem as6 (e:eu):lR e=some (jN e):=by
 unfold lR jN
 rw [ay9 e 6 (by omega) (by omega),obS]
 rw [show (6:Int).toNat=6 from rfl]
 cases h:gj 6 e with
 | false=>rfl
 | true =>
  have:=wR h
  rw [ap4 e (Nat.le_trans this (by decide))]
  have:decide ((iT e:Int)≤30)=decide (iT e≤30):=by rw [decide_eq_decide];omega
  simp [this]
theorem ax9:∀ (e:eu) (d:Nat),d≤6→∃ p h ok,jU e (d:Int)=some (p,h,ok)∧ok=(gj d e&&decide (iT e≤30))∧(ok=true→p=(iT e:Int)∧0≤h∧h≤(d:Int)):=by
 intro e
 induction e using sL with
 | h e ih =>
  intro d hd
  rw [ai3]
  cases d with
  | zero=>exact ⟨0,0,false,by simp,by rw [gj];rfl,λh=>by cases h⟩
  | succ d =>
  generalize hD:((d+1:Nat):Int)=D
  have e1:decide ((1:Int)≤D)=true:=by simp;omega
  rw [e1,Bool.and_true,gj]
  cases hh:oP e with
  | false=>exact ⟨0,0,false,rfl,rfl,λh=>by cases h⟩
  | true =>
  rw [if_pos rfl]
  have hk3:=sw hh
  rcases jE (xs:=e.kids) (body:=(λ(uC:Int) (uB:Int × Int)=>((fT e.kids uC).bind λuD=>(jU uD (w64 (D - 1))).bind λuA=>if !(uA.2.2) then some (.inr (0,0,false)) else some (.inl (w64 (uB.1+uA.1),(qQ uB.2 (w64 (uA.2.1+1))))):Option ((Int × Int) ⊕ (Int × Int × Bool))))) (s:=(1,1)) (λl s=>s.1=((1+iz l:Nat):Int)∧0≤s.2∧s.2≤D∧l.all (gj d)=true∧iz l≤l.length*30) (λy=>y=(0,0,false)∧(e.kids.all (gj d)&&decide (1+iz e.kids≤30))=false) ⟨by rw [j6];rfl,by simp,by simp only [];omega,rfl,by rw [j6];simp⟩ (λl x r s hx hI=>by
   have hp2:iz e.kids=iz l+(iT x+iz r):=by rw [hx,mD,ig]
   obtain ⟨p,h,ok,g1,g2,g3⟩:=ih x (by rw [hx];simp) d (by omega)
   have hll:l.length≤3:=by
    have:=congrArg List.length hx
    simp at this
    omega
   have g0:w64 (D - 1)=(d:Int):=by rw [gu (by omega) (by omega)];omega
   have gg:fT e.kids (l.length:Int)=some x:=by rw [hx,iJ]
   cases hok:ok with
   | false =>
    refine .inr ⟨_,?_,rfl,?_⟩
    ·rw [gg,obS,g0,g1,hok];rfl
    ·rw [hok] at g2
     rw [hx,List.all_append,List.all_cons]
     cases h1:gj d x with
     | false=>simp
     | true =>
      rw [h1] at g2
      simp at g2
      have:¬ 1+iz e.kids≤30:=by omega
      rw [hx] at this
      simp [this]
   | true =>
    obtain ⟨g4,g5,g6⟩:=g3 hok
    rw [hok] at g2
    have g7:=g2.symm
    rw [Bool.and_eq_true,decide_eq_true_iff] at g7
    obtain ⟨i1,i2,i3,i4,i5⟩:=hI
    have hle:iz l≤3*30:=Nat.le_trans i5 (Nat.mul_le_mul_right _ hll)
    refine .inl ⟨(w64 (s.1+p),qQ s.2 (w64 (h+1))),?_,?_,?_,?_,?_,?_⟩
    ·rw [gg,obS,g0,g1,hok];rfl
    ·rw [i1,g4,gu (by omega) (by omega),mD,ig,j6];omega
    ·show 0 ≤ qQ s.2 (w64 (h + 1))
     rw [gu (by omega) (by omega)];unfold qQ;split<;>omega
    ·show qQ s.2 (w64 (h + 1)) ≤ _
     rw [gu (by omega) (by omega)];unfold qQ;split<;>omega
    ·rw [List.all_append,i4,List.all_cons,g7.1];rfl
    ·rw [mD,ig,j6,List.length_append,List.length_cons,List.length_nil,Nat.add_mul];omega) with ⟨s,h1,h2⟩ | ⟨y,h1,h2,h3⟩
  ·obtain ⟨i1,i2,i3,i4,i5⟩:=h2
   refine ⟨s.1,s.2,decide (s.1≤30),by rw [h1];rfl,?_,λ_=>⟨by rw [i1,kq],i2,i3⟩⟩
   rw [i4,Bool.true_and,Bool.true_and,i1,kq,decide_eq_decide];omega
  ·refine ⟨0, 0, false, by rw [h1, h2]; rfl, ?_, fun h => by cases h⟩
   rw [Bool.true_and,kq,h3]
theorem ax7 (e:eu):lM e=some (jN e):=by
 unfold lM jN
 obtain ⟨p,h,ok,h1,h2,h3⟩:=ax9 e 6 (by omega)
 rw [show (6:Int)=((6:Nat):Int) from rfl,h1,obS,h2]
end Prg
end Go.Wk
namespace Go.Wk
open Go
namespace Prg
set_option maxRecDepth 10000
def isT (ws:List ep) (t:Str):Bool:=match ws with
 | []=>false
 | w::_=>decide (w.text=t)
def pkW (ws:List ep):ep:=match ws with
 | []=>⟨0,mkS []⟩
 | w::_=>w
theorem rq (ws:List ep) (b:Bool):fw ⟨ws,b⟩=some (pkW ws):=by
 unfold fw
 cases ws with
 | nil=>rfl
 | cons w ws =>
  have:decide (((w::ws).length:Int)=0)=false:=by simp;omega
  rw [this];rfl
theorem q7 (b:Bool):fX ⟨[],b⟩=some (⟨0,mkS []⟩,⟨[],true⟩):=by
 unfold fX
 rw [rq];rfl
theorem zG (w:ep) (ws:List ep):ud (w::ws) 1 ((w::ws).length:Int)=some ws:=by
 unfold ud
 rw [if_pos ⟨by omega,by simp;omega,by omega⟩]
 simp
theorem oY (w:ep) (ws:List ep) (b:Bool):fX ⟨w::ws,b⟩=some (w,⟨ws,b⟩):=by
 unfold fX
 have:decide (((w::ws).length:Int)=0)=false:=by simp;omega
 rw [rq,obS]
 dsimp only
 rw [this,zG];rfl
def tkW (ws:List ep) (k:Int) (t:Str):Bool:=match ws with
 | []=>false
 | w::_=>decide (w.kind=k)&&decide (w.text=t)
theorem lZ (ws:List ep) (b:Bool) (k:Int) (t:Str):fI ⟨ws,b⟩ k t=some (tkW ws k t,⟨if tkW ws k t then ws.tail else ws,b⟩):=by
 unfold fI
 rw [rq,obS]
 cases ws with
 | nil=>rfl
 | cons w ws =>
  have:decide (((w::ws).length:Int)=0)=false:=by simp;omega
  show (if decide (((w::ws).length:Int)=0) then _ else if decide (w.kind≠k) then some true else some (decide (w.text≠t))).bind (λs=>if s then _ else (ud (w::ws) 1 ((w::ws).length:Int)).bind _)=_
  rw [this,zG]
  unfold tkW
  by_cases h1:w.kind=k<;>by_cases h2:w.text=t<;>simp [h1,h2]
theorem pz (ws:List ep) (b:Bool) (k:Int) (t:Str):fB ⟨ws,b⟩ k t=some ⟨if tkW ws k t then ws.tail else ws,if tkW ws k t then b else true⟩:=by
 unfold fB
 rw [lZ,obS]
 cases tkW ws k t<;>rfl
theorem p8 {w:ep} {c:UInt8} (hw:k9 w=true) (hb:w.text.b=[c]) (hc:c∈nI):w.kind=3:=by
 have hcl:kC c=false∧jf c=false:=by
  have key:∀ c∈nI,kC c=false∧jf c=false:=by decide
  exact key c hc
 unfold k9 at hw
 by_cases h1:w.kind=1
 ·rw [if_pos h1] at hw
  unfold iL at hw
  rw [hb] at hw
  simp [hcl.1] at hw
 rw [if_neg h1] at hw
 by_cases h2:w.kind=2
 ·rw [if_pos h2] at hw
  unfold mS at hw
  rw [hb] at hw
  simp [hcl.2] at hw
 rw [if_neg h2] at hw
 by_cases h3:w.kind=3
 ·exact h3
 rw [if_neg h3] at hw
 by_cases h4:w.kind=4
 ·rw [if_pos h4] at hw
  have:=rv hb hw
  rw [hcl.1] at this;cases this
 ·rw [if_neg h4] at hw;cases hw
theorem qH {ws:List ep} (hw:∀ w∈ws,k9 w=true) {t:Str} {c:UInt8} (ht:t.b=[c]) (hc:c∈nI):tkW ws 3 t=isT ws t:=by
 cases ws with
 | nil=>rfl
 | cons w ws =>
  unfold tkW isT
  by_cases h:w.text=t
  ·have := p8 (hw w (by simp)) (by rw [h]; exact ht) hc
   simp [h,this]
  ·simp [h]
theorem am3 (list:List ep) (n:Nat) (t:Str):iD list (n:Int) t=some (isT (list.drop n) t):=by
 unfold iD isT
 by_cases h:n<list.length
 ·have h1 : decide ((n : Int) < (list.length : Int)) = true := by simp; omega
  rw [h1,if_pos rfl,oo,List.getElem?_eq_getElem h,List.drop_eq_getElem_cons h];rfl
 ·have h1 : decide ((n : Int) < (list.length : Int)) = false := by simp; omega
  rw [h1,List.drop_eq_nil_of_le (by omega)];rfl
def opW (lv:Int) (w:ep):Int :=
 if lv=1 then (if w.text=mkS [38] then 10 else 0)
 else if lv=2 then (if w.text=mkS [60] then 8 else if w.text=mkS [61] then 9 else 0)
 else if lv=3 then (if w.text=mkS [43] then 3 else if w.text=mkS [45] then 4 else 0)
 else (if w.text=mkS [42] then 5 else if w.text=mkS [47] then 6 else if w.text=mkS [37] then 7 else 0)
def opT (lv:Int) (ws:List ep):Int:=match ws with
 | []=>0
 | w::_=>opW lv w
theorem bd8:ir 3=some (mkS [43]):=rfl
theorem bh0:ir 4=some (mkS [45]):=rfl
theorem be9:ir 5=some (mkS [42]):=rfl
theorem bh5:ir 6=some (mkS [47]):=rfl
theorem bi8:ir 7=some (mkS [37]):=rfl
theorem bf4:ir 8=some (mkS [60]):=rfl
theorem bh8:ir 9=some (mkS [61]):=rfl
theorem ba3:ir 10=some (mkS [38]):=rfl
theorem ag0:ir 11=some (mkS [33]):=rfl
theorem ad8:ir 12=some (mkS [64]):=rfl
theorem bl6 (list:List ep) (n:Nat) (lv:Int) (hl:lv=1∨lv=2∨lv=3∨lv=4):iw list (n:Int) lv=some (opT lv (list.drop n)):=by
 unfold iw
 have e:(((10)+1:Int) - 3).toNat=8:=rfl
 rw [e]
 rcases hl with rfl | rfl | rfl | rfl
 all_goals
  simp only [forN,y7,lvI,obS,am3]
  simp [bd8,bh0,be9,bh5,bi8,bf4,bh8,ba3,am3]
  unfold opT isT
  cases list.drop n with
  | nil=>rfl
  | cons w r =>
   unfold opW
   dsimp only
   repeat' split
   all_goals simp_all
theorem tp {α S : Type} (q : α → Bool) (f : α → S) (K : S) {body : α → S → Option S} (hb : ∀ p s, body p s = some (if q p then f p else s)) : ∀ (fs : List α) (s : S), (∀ p ∈ fs, q p = true → f p = K) → lQ body fs s = some (if fs.any q then K else s)
 | [],s,_=>rfl
 | p::fs,s,h=>by
  rw [lQ,hb,obS,tp q f K hb fs _ λp hp=>h p (by simp [hp])]
  rw [List.any_cons]
  cases hq:q p with
  | true =>
   rw [h p (by simp) hq]
   cases fs.any q<;>rfl
  | false=>rfl
theorem al7 {α:Type} {q:α→Bool} {fs es:List α} (hp:fs.Perm es):fs.any q=es.any q:=by
 cases h:es.any q with
 | true =>
  obtain ⟨x,h1,h2⟩:=List.any_eq_true.1 h
  exact List.any_eq_true.2 ⟨x,hp.mem_iff.2 h1,h2⟩
 | false =>
  rw [List.any_eq_false] at h ⊢
  exact λx hx=>h x (hp.mem_iff.1 hx)
theorem zK {α S:Type} (q:α→Bool) (f:α→S) (K:S) {body:α→S→Option S} (hb:∀ p s,body p s=some (if q p then f p else s)) {es:List α} {s:S} (h:∀ p∈es,q p=true→f p=K):mW body es s=some (if es.any q then K else s) :=
 ah0 λfs hp=>by
  rw [tp q f K hb fs s λp hx=>h p (hp.mem_iff.1 hx),al7 hp]
def qE (lv:Int) (ws:List ep) (p:Int × fN):Bool:=decide (p.2.level=lv)&&(decide ((pkW ws).kind=3)&&decide ((pkW ws).text=p.2.sign))
theorem aj5 (ws : List ep) (hw : ∀ w ∈ ws, k9 w = true) (lv : Int) (hl : lv = 1 ∨ lv = 2 ∨ lv = 3 ∨ lv = 4) {body : Int × fN → Int → Option Int} (hb : ∀ p s, body p s = some (if qE lv ws p then p.1 else s)) :
  mW body (ez:jg fN).es 0=some (opT lv ws):=by
 have hes:∀ p∈ez.es,p=(3,⟨mkS [43],3⟩)∨p=(4,⟨mkS [45],3⟩)∨p=(5,⟨mkS [42],4⟩)∨p=(6,⟨mkS [47],4⟩)∨p=(7,⟨mkS [37],4⟩)∨p=(8,⟨mkS [60],2⟩)∨p=(9,⟨mkS [61],2⟩)∨p=(10,⟨mkS [38],1⟩):=by
  intro p hp
  unfold ez at hp
  simpa only [List.mem_cons,List.not_mem_nil,or_false] using hp
 have hq:∀ p∈ez.es,qE lv ws p=true→p.1=opT lv ws:=by
  intro p hp hq
  cases ws with
  | nil=>simp [qE,pkW] at hq
  | cons w r =>
   unfold qE at hq
   simp only [Bool.and_eq_true,decide_eq_true_iff,pkW] at hq
   obtain ⟨h1,_,h2⟩:=hq
   replace h2:=of_decide_eq_true h2
   show p.1=opW lv w
   unfold opW
   rw [h2,← h1]
   rcases hes p hp with rfl | rfl | rfl | rfl | rfl | rfl | rfl | rfl<;>rfl
 rw [zK (qE lv ws) (λp=>p.1) (opT lv ws) hb hq]
 cases h:ez.es.any (qE lv ws) with
 | true=>rfl
 | false =>
  cases ws with
  | nil=>rfl
  | cons w r =>
   have key:∀ p∈ez.es,p.2.level=lv→w.text=p.2.sign→False:=by
    intro p hp h1 h2
    have hn:=List.any_eq_false.1 h p hp
    apply hn
    obtain ⟨c,h3,h4⟩:∃ c,p.2.sign.b=[c]∧c∈nI:=by
     rcases hes p hp with rfl | rfl | rfl | rfl | rfl | rfl | rfl | rfl<;>exact ⟨_,rfl,by decide⟩
    have h5:=p8 (hw w (by simp)) (by rw [h2];exact h3) h4
    unfold qE
    simp [pkW,h1,h2,h5]
   have n3:lv=3→w.text≠mkS [43]:=λh h2=>key (3,⟨mkS [43],3⟩) (by simp [ez]) h.symm h2
   have n4:lv=3→w.text≠mkS [45]:=λh h2=>key (4,⟨mkS [45],3⟩) (by simp [ez]) h.symm h2
   have n5:lv=4→w.text≠mkS [42]:=λh h2=>key (5,⟨mkS [42],4⟩) (by simp [ez]) h.symm h2
   have n6:lv=4→w.text≠mkS [47]:=λh h2=>key (6,⟨mkS [47],4⟩) (by simp [ez]) h.symm h2
   have n7:lv=4→w.text≠mkS [37]:=λh h2=>key (7,⟨mkS [37],4⟩) (by simp [ez]) h.symm h2
   have n8:lv=2→w.text≠mkS [60]:=λh h2=>key (8,⟨mkS [60],2⟩) (by simp [ez]) h.symm h2
   have n9:lv=2→w.text≠mkS [61]:=λh h2=>key (9,⟨mkS [61],2⟩) (by simp [ez]) h.symm h2
   have n10:lv=1→w.text≠mkS [38]:=λh h2=>key (10,⟨mkS [38],1⟩) (by simp [ez]) h.symm h2
   show some 0=some (opW lv w)
   unfold opW
   rcases hl with rfl | rfl | rfl | rfl
   ·simp [n10 rfl]
   ·simp [n8 rfl,n9 rfl]
   ·simp [n3 rfl,n4 rfl]
   ·simp [n5 rfl,n6 rfl,n7 rfl]
end Prg
end Go.Wk
namespace Go.Wk
open Go
namespace Prg
set_option maxRecDepth 10000
inductive Job where
 | E (lv:Int) (ws:List ep) (e:eu) (r:List ep)
 | L (lv:Int) (x:eu) (ws:List ep) (e:eu) (r:List ep)
 | A (ws:List ep) (ks:List eu) (r:List ep)
 | M (acc:List eu) (ws:List ep) (ks:List eu) (r:List ep)
inductive Rd:Job→Prop
 | neg {w ws e r}:w.text=mkS [33]→Rd (.E 5 ws e r)→Rd (.E 5 (w::ws) ⟨11,0,mkS [],[e]⟩ r)
 | at_ {w ws e r}:w.text=mkS [64]→Rd (.E 5 ws e r)→Rd (.E 5 (w::ws) ⟨12,0,mkS [],[e]⟩ r)
 | par {w ws e v r}:w.text=mkS [40]→Rd (.E 1 ws e (v::r))→v.text=mkS [41]→Rd (.E 5 (w::ws) e r)
 | num {w r}:w.kind=2→Rd (.E 5 (w::r) ⟨1,xF w,mkS [],[]⟩ r)
 | var {w r}:w.kind=1→isT r (mkS [40])=false→Rd (.E 5 (w::r) ⟨2,0,w.text,[]⟩ r)
 | call {w v ws ks r}:w.kind=1→v.text=mkS [40]→Rd (.A ws ks r)→Rd (.E 5 (w::v::ws) ⟨13,0,w.text,ks⟩ r)
 | up {lv ws e ws' e' r}:(lv=1∨lv=2∨lv=3∨lv=4)→Rd (.E (lv+1) ws e ws')→Rd (.L lv e ws' e' r)→Rd (.E lv ws e' r)
 | stop {lv e ws}:opT lv ws=0→Rd (.L lv e ws e ws)
 | step {lv e w ws f ws' e' r}:opW lv w≠0→Rd (.E (lv+1) ws f ws')→Rd (.L lv ⟨opW lv w,0,mkS [],[e,f]⟩ ws' e' r)→Rd (.L lv e (w::ws) e' r)
 | done {v r}:v.text=mkS [41]→Rd (.A (v::r) [] r)
 | first {ws e ws' ks r}:isT ws (mkS [41])=false→Rd (.E 1 ws e ws')→Rd (.M [e] ws' ks r)→Rd (.A ws ks r)
 | last {acc v r}:v.text=mkS [41]→Rd (.M acc (v::r) acc r)
 | more {acc v ws e ws' ks r}:v.text=mkS [44]→Rd (.E 1 ws e ws')→Rd (.M (acc++[e]) ws' ks r)→Rd (.M acc (v::ws) ks r)
def bj8:Job→Prop
 | .E _ ws _ r=>r.length<ws.length∧∀ x∈r,x∈ws
 | .L _ _ ws _ r=>r.length≤ws.length∧∀ x∈r,x∈ws
 | .A ws _ r=>r.length<ws.length∧∀ x∈r,x∈ws
 | .M _ ws _ r=>r.length<ws.length∧∀ x∈r,x∈ws
theorem og {j:Job} (h:Rd j):bj8 j:=by
 induction h<;>simp only [bj8,List.length_cons,List.mem_cons] at *
 case neg ih=>exact ⟨by omega,λx hx=>.inr (ih.2 x hx)⟩
 case at_ ih=>exact ⟨by omega,λx hx=>.inr (ih.2 x hx)⟩
 case par ih=>exact ⟨by omega,λx hx=>.inr (ih.2 x (.inr hx))⟩
 case num=>exact ⟨by omega,λx hx=>.inr hx⟩
 case var=>exact ⟨by omega,λx hx=>.inr hx⟩
 case call ih=>exact ⟨by omega,λx hx=>.inr (.inr (ih.2 x hx))⟩
 case up ih1 ih2=>exact ⟨by omega,λx hx=>ih1.2 x (ih2.2 x hx)⟩
 case stop=>exact ⟨by omega,λx hx=>hx⟩
 case step ih1 ih2=>exact ⟨by omega,λx hx=>.inr (ih1.2 x (ih2.2 x hx))⟩
 case done=>exact ⟨by omega,λx hx=>.inr hx⟩
 case first ih1 ih2=>exact ⟨by omega,λx hx=>ih1.2 x (ih2.2 x hx)⟩
 case last=>exact ⟨by omega,λx hx=>.inr hx⟩
 case more ih1 ih2=>exact ⟨by omega,λx hx=>.inr (ih1.2 x (ih2.2 x hx))⟩
def AtW (list:List ep) (n:Nat) (ws:List ep):Prop:=list.drop n=ws∧n≤list.length
theorem jG {list:List ep} {n:Nat} {w:ep} {ws:List ep} (h:AtW list n (w::ws)):n<list.length∧fT list (n:Int)=some w∧AtW list (n+1) ws:=by
 obtain ⟨h1,h2⟩:=h
 have hlt:n<list.length:=by
  rcases Nat.lt_or_ge n list.length with h | h
  ·exact h
  ·rw [List.drop_eq_nil_of_le h] at h1;cases h1
 rw [List.drop_eq_getElem_cons hlt] at h1
 cases h1
 exact ⟨hlt,by rw [oo,List.getElem?_eq_getElem hlt],rfl,hlt⟩
theorem xe {list:List ep} {n:Nat} (h:AtW list n []):n=list.length:=by
 have:=List.drop_eq_nil_iff.1 h.1
 have:=h.2
 omega
theorem tm {list:List ep} {n:Nat} {ws:List ep} (h:AtW list n ws) (t:Str):iD list (n:Int) t=some (isT ws t):=by rw [am3,h.1]
theorem bc7 {list:List ep} {n:Nat} {ws:List ep} (h:AtW list n ws) {lv:Int} (hl:lv=1∨lv=2∨lv=3∨lv=4):iw list (n:Int) lv=some (opT lv ws):=by rw [bl6 _ _ _ hl,h.1]
theorem sH {n:Nat} (h:n≤2000):w64 ((n:Int)+1)=((n+1:Nat):Int):=by rw [gu (by omega) (by omega)];omega
theorem bl4 {n:Nat} (h:n≤2000):w64 ((n:Int)+2)=((n+2:Nat):Int):=by rw [gu (by omega) (by omega)];omega
theorem kQ {list:List ep} (hl:list.length≤1000) {n:Nat} {w:ep} {ws:List ep} (h:AtW list n (w::ws)):jP list (n:Int) =
  if w.text=mkS [33] then (jP list ((n+1:Nat):Int)).bind λr=>some (⟨11,0,mkS [],[r.1]⟩,r.2)
  else if w.text=mkS [64] then (jP list ((n+1:Nat):Int)).bind λr=>some (⟨12,0,mkS [],[r.1]⟩,r.2)
  else if w.text=mkS [40] then (fq list ((n+1:Nat):Int) 1).bind λr=>(if decide (r.2<0) then some true else (iD list r.2 (mkS [41])).bind λb=>some (!b):Option Bool).bind λs=>if s then some (r.1,-1) else some (r.1,w64 (r.2+1))
  else if w.kind=2 then some (⟨1,xF w,mkS [],[]⟩,((n+1:Nat):Int))
  else if w.kind≠1 then some (⟨0,0,mkS [],[]⟩,-1)
  else if isT ws (mkS [40])=false then some (⟨2,0,w.text,[]⟩,((n+1:Nat):Int))
  else (mG list ((n+2:Nat):Int)).bind λr=>some (⟨13,0,w.text,r.1⟩,r.2):=by
 obtain ⟨h1,h2,h3⟩:=jG h
 rw [jP,show (((12)+1:Int) - 11).toNat=2 from rfl]
 simp only [forN,ag0,show ((11:Int)+1)=12 from rfl,ad8,obS,sH (show n≤2000 by omega),bl4 (show n≤2000 by omega),tm h,tm h3,h2,zg]
 have e1:decide ((n:Int)<(list.length:Int))=true:=by simp;omega
 have e2:decide ((list.length:Int)≤(n:Int))=false:=by simp;omega
 rw [e1,e2]
 unfold isT
 by_cases c1:w.text=mkS [33]
 ·simp only [c1,decide_true,if_true]
  cases jP list ((n+1:Nat):Int)<;>rfl
 by_cases c2:w.text=mkS [64]
 ·simp only [c1,c2,decide_true,decide_false,if_true,if_false,Bool.false_eq_true]
  cases jP list ((n+1:Nat):Int)<;>rfl
 by_cases c3:w.text=mkS [40]
 ·have a1 : (mkS [40] : Str) ≠ mkS [33] := by decide
  have a2:(mkS [40]:Str)≠mkS [64]:=by decide
  simp [c3,a1,a2]
 by_cases c4:w.kind=2
 ·simp [c1,c2,c3,c4]
 by_cases c5:w.kind=1
 ·cases ws with
  | nil=>simp [c1,c2,c3,c5]
  | cons v ws=>by_cases c6:v.text=mkS [40]<;>simp [c1,c2,c3,c5,c6]
 ·simp [c1,c2,c3,c4,c5]
theorem ai2 {list:List ep} {n:Nat} (h:AtW list n []):jP list (n:Int)=some (⟨0,0,mkS [],[]⟩,-1):=by
 have h1:=xe h
 rw [jP,show (((12)+1:Int) - 11).toNat=2 from rfl]
 simp only [forN,ag0,show ((11:Int)+1)=12 from rfl,ad8,obS,tm h]
 have e1:decide ((n:Int)<(list.length:Int))=false:=by simp;omega
 have e2:decide ((list.length:Int)≤(n:Int))=true:=by simp;omega
 rw [e1,e2]
 simp [isT]
theorem nq (list:List ep) (n:Int):fq list n 5=jP list n:=by
 rw [fq]
 rw [if_pos (by decide)]
 cases jP list n<;>rfl
theorem ak1 {α:Type} {o:Option α}:(Option.bind o λe=>some e)=o:=by cases o<;>rfl
theorem xz {list:List ep} {n lv:Int} (hl:lv=1∨lv=2∨lv=3∨lv=4):fq list n lv=(fq list n (lv+1)).bind λr=>(fy (λ(uA:Int × Int × Str × (List eu) × Int)=>((if decide (0≤uA.2.2.2.2) then (iw list uA.2.2.2.2 lv).bind λuC=>some (decide (0<uC)) else some false:Option (Bool)).bind λuD=>if uD then (iw list uA.2.2.2.2 lv).bind λuE=>(fq list (w64 (uA.2.2.2.2+1)) (w64 (lv+1))).bind λuB=>some (.inl (uE,0,(mkS []),([(⟨uA.1,uA.2.1,uA.2.2.1,uA.2.2.2.1⟩:eu),uB.1]:List eu),uB.2)) else some (.inr (uA.1,uA.2.1,uA.2.2.1,uA.2.2.2.1,uA.2.2.2.2)):Option ((Int × Int × Str × (List eu) × Int) ⊕ (Int × Int × Str × (List eu) × Int)))) (r.1.op,r.1.n_,r.1.name,r.1.kids,r.2)).bind λs=>some (⟨s.1,s.2.1,s.2.2.1,s.2.2.2.1⟩,s.2.2.2.2):=by
 have e:w64 (lv+1)=lv+1:=gu (by omega) (by omega)
 have e2:decide (4<lv)=false:=by simp;omega
 rw [fq,e2]
 simp only [Bool.false_eq_true,if_false,e,ak1]
end Prg
end Go.Wk
namespace Go.Wk
open Go
namespace Prg
set_option maxRecDepth 10000
theorem rZ (e:eu):(⟨e.op,e.n_,e.name,e.kids⟩:eu)=e:=by cases e;rfl
theorem be2 (lv:Int) (w:ep):0≤opW lv w:=by
 unfold opW;repeat' split
 all_goals decide
theorem ap3 {list:List ep} {n:Nat} {ws:List ep} (h:AtW list n ws) {lv:Int} (hl:lv=1∨lv=2∨lv=3∨lv=4) (ho:opT lv ws=0) {op n_:Int} {nm:Str} {ks:List eu} :
  fy (λ(uA:Int × Int × Str × (List eu) × Int)=>((if decide (0≤uA.2.2.2.2) then (iw list uA.2.2.2.2 lv).bind λuC=>some (decide (0<uC)) else some false:Option (Bool)).bind λuD=>if uD then (iw list uA.2.2.2.2 lv).bind λuE=>(fq list (w64 (uA.2.2.2.2+1)) (w64 (lv+1))).bind λuB=>some (.inl (uE,0,(mkS []),([(⟨uA.1,uA.2.1,uA.2.2.1,uA.2.2.2.1⟩:eu),uB.1]:List eu),uB.2)) else some (.inr (uA.1,uA.2.1,uA.2.2.1,uA.2.2.2.1,uA.2.2.2.2)):Option ((Int × Int × Str × (List eu) × Int) ⊕ (Int × Int × Str × (List eu) × Int)))) (op,n_,nm,ks,(n:Int))=some (op,n_,nm,ks,(n:Int)):=by
 refine fx ?_
 have e1:decide (0≤(n:Int))=true:=by simp
 simp only [e1,bc7 h hl,ho,obS]
 rfl
theorem ae5 {list:List ep} {lv:Int} {op n_:Int} {nm:Str} {ks:List eu} :
  fy (λ(uA:Int × Int × Str × (List eu) × Int)=>((if decide (0≤uA.2.2.2.2) then (iw list uA.2.2.2.2 lv).bind λuC=>some (decide (0<uC)) else some false:Option (Bool)).bind λuD=>if uD then (iw list uA.2.2.2.2 lv).bind λuE=>(fq list (w64 (uA.2.2.2.2+1)) (w64 (lv+1))).bind λuB=>some (.inl (uE,0,(mkS []),([(⟨uA.1,uA.2.1,uA.2.2.1,uA.2.2.2.1⟩:eu),uB.1]:List eu),uB.2)) else some (.inr (uA.1,uA.2.1,uA.2.2.1,uA.2.2.2.1,uA.2.2.2.2)):Option ((Int × Int × Str × (List eu) × Int) ⊕ (Int × Int × Str × (List eu) × Int)))) (op,n_,nm,ks,-1)=some (op,n_,nm,ks,-1):=by
 refine fx ?_
 rfl
theorem wG {list:List ep} (hlen:list.length≤1000) {n:Nat} {w:ep} {ws:List ep} (h:AtW list n (w::ws)) {lv:Int} (hl:lv=1∨lv=2∨lv=3∨lv=4) (ho:opW lv w≠0) {op n_:Int} {nm:Str} {ks:List eu} {f:eu} {m:Int}
  (hr:fq list ((n+1:Nat):Int) (lv+1)=some (f,m)) :
  fy (λ(uA:Int × Int × Str × (List eu) × Int)=>((if decide (0≤uA.2.2.2.2) then (iw list uA.2.2.2.2 lv).bind λuC=>some (decide (0<uC)) else some false:Option (Bool)).bind λuD=>if uD then (iw list uA.2.2.2.2 lv).bind λuE=>(fq list (w64 (uA.2.2.2.2+1)) (w64 (lv+1))).bind λuB=>some (.inl (uE,0,(mkS []),([(⟨uA.1,uA.2.1,uA.2.2.1,uA.2.2.2.1⟩:eu),uB.1]:List eu),uB.2)) else some (.inr (uA.1,uA.2.1,uA.2.2.1,uA.2.2.2.1,uA.2.2.2.2)):Option ((Int × Int × Str × (List eu) × Int) ⊕ (Int × Int × Str × (List eu) × Int)))) (op,n_,nm,ks,(n:Int))=fy (λ(uA:Int × Int × Str × (List eu) × Int)=>((if decide (0≤uA.2.2.2.2) then (iw list uA.2.2.2.2 lv).bind λuC=>some (decide (0<uC)) else some false:Option (Bool)).bind λuD=>if uD then (iw list uA.2.2.2.2 lv).bind λuE=>(fq list (w64 (uA.2.2.2.2+1)) (w64 (lv+1))).bind λuB=>some (.inl (uE,0,(mkS []),([(⟨uA.1,uA.2.1,uA.2.2.1,uA.2.2.2.1⟩:eu),uB.1]:List eu),uB.2)) else some (.inr (uA.1,uA.2.1,uA.2.2.1,uA.2.2.2.1,uA.2.2.2.2)):Option ((Int × Int × Str × (List eu) × Int) ⊕ (Int × Int × Str × (List eu) × Int)))) (opW lv w,0,mkS [],[⟨op,n_,nm,ks⟩,f],m):=by
 obtain ⟨h1,h2,h3⟩:=jG h
 refine iu ?_
 have e1:decide (0≤(n:Int))=true:=by simp
 have e2:decide (0<opW lv w)=true:=by have:=be2 lv w;simp;omega
 have e3:w64 (lv+1)=lv+1:=gu (by omega) (by omega)
 have e4:iw list (n:Int) lv=some (opW lv w):=bc7 h hl
 simp only [e1,e4,e2,e3,sH (show n≤2000 by omega),hr,obS,if_true]
theorem vg {list:List ep} (hlen:list.length≤1000) {n:Nat} {ws:List ep} (h:AtW list n ws):mG list (n:Int)=if isT ws (mkS [41]) then some ([],((n+1:Nat):Int)) else fy (λ(uC:Int × (List eu))=>((fq list uC.1 1).bind λuA=>(fr uC.2 ([uA.1]:List eu)).bind λuB=>(if decide (uA.2<0) then some true else (iD list uA.2 (mkS [41])).bind λuD=>some uD:Option (Bool)).bind λuE=>if uE then (jw uA.2).bind λuF=>some (.inr (uB,w64 (uA.2+uF))) else (iD list uA.2 (mkS [44])).bind λuG=>if !(uG) then some (.inr (uB,-1)) else some (.inl (w64 (uA.2+1),uB)):Option ((Int × (List eu)) ⊕ ((List eu) × Int)))) ((n:Int),[]):=by
 have:=h.2
 rw [mG,tm h,obS,sH (show n≤2000 by omega),ak1]
theorem ab2 {list:List ep} {q:Int} {acc:List eu} (ha:acc.length≤1000) {e:eu} (hr:fq list q 1=some (e,-1)):fy (λ(uC:Int × (List eu))=>((fq list uC.1 1).bind λuA=>(fr uC.2 ([uA.1]:List eu)).bind λuB=>(if decide (uA.2<0) then some true else (iD list uA.2 (mkS [41])).bind λuD=>some uD:Option (Bool)).bind λuE=>if uE then (jw uA.2).bind λuF=>some (.inr (uB,w64 (uA.2+uF))) else (iD list uA.2 (mkS [44])).bind λuG=>if !(uG) then some (.inr (uB,-1)) else some (.inl (w64 (uA.2+1),uB)):Option ((Int × (List eu)) ⊕ ((List eu) × Int)))) (q,acc)=some (acc++[e],-1):=by
 refine fx ?_
 simp only [hr,obS,jM (show acc.length+[e].length≤2147483648 by simp;omega)]
 rfl
theorem sn {list:List ep} (hlen:list.length≤1000) {q:Int} {acc:List eu} (ha:acc.length≤1000) {e:eu} {n:Nat} {ws:List ep} (h:AtW list n ws) (hr:fq list q 1=some (e,(n:Int))) :
  fy (λ(uC:Int × (List eu))=>((fq list uC.1 1).bind λuA=>(fr uC.2 ([uA.1]:List eu)).bind λuB=>(if decide (uA.2<0) then some true else (iD list uA.2 (mkS [41])).bind λuD=>some uD:Option (Bool)).bind λuE=>if uE then (jw uA.2).bind λuF=>some (.inr (uB,w64 (uA.2+uF))) else (iD list uA.2 (mkS [44])).bind λuG=>if !(uG) then some (.inr (uB,-1)) else some (.inl (w64 (uA.2+1),uB)):Option ((Int × (List eu)) ⊕ ((List eu) × Int)))) (q,acc)=if isT ws (mkS [41]) then some (acc++[e],((n+1:Nat):Int)) else if isT ws (mkS [44]) then fy (λ(uC:Int × (List eu))=>((fq list uC.1 1).bind λuA=>(fr uC.2 ([uA.1]:List eu)).bind λuB=>(if decide (uA.2<0) then some true else (iD list uA.2 (mkS [41])).bind λuD=>some uD:Option (Bool)).bind λuE=>if uE then (jw uA.2).bind λuF=>some (.inr (uB,w64 (uA.2+uF))) else (iD list uA.2 (mkS [44])).bind λuG=>if !(uG) then some (.inr (uB,-1)) else some (.inl (w64 (uA.2+1),uB)):Option ((Int × (List eu)) ⊕ ((List eu) × Int)))) (((n+1:Nat):Int),acc++[e]) else some (acc++[e],-1):=by
 have:=h.2
 have e1:decide ((n:Int)<0)=false:=by simp
 have hb:((λ(uC:Int × (List eu))=>((fq list uC.1 1).bind λuA=>(fr uC.2 ([uA.1]:List eu)).bind λuB=>(if decide (uA.2<0) then some true else (iD list uA.2 (mkS [41])).bind λuD=>some uD:Option (Bool)).bind λuE=>if uE then (jw uA.2).bind λuF=>some (.inr (uB,w64 (uA.2+uF))) else (iD list uA.2 (mkS [44])).bind λuG=>if !(uG) then some (.inr (uB,-1)) else some (.inl (w64 (uA.2+1),uB)):Option ((Int × (List eu)) ⊕ ((List eu) × Int)))):_→_) (q,acc)=if isT ws (mkS [41]) then some (.inr (acc++[e],((n+1:Nat):Int))) else if isT ws (mkS [44]) then some (.inl (((n+1:Nat):Int),acc++[e])) else some (.inr (acc++[e],-1)):=by
  have hs:jw (n:Int)=some 1:=by unfold jw;rw [e1];rfl
  simp only [hr,obS,jM (show acc.length+[e].length≤2147483648 by simp;omega),e1,tm h,hs,sH (show n≤2000 by omega),Bool.false_eq_true,if_false]
  cases isT ws (mkS [41])<;>cases isT ws (mkS [44])<;>rfl
 cases h1:isT ws (mkS [41]) with
 | true=>rw [h1] at hb;exact fx hb
 | false =>
  rw [h1] at hb
  cases h2:isT ws (mkS [44]) with
  | true=>rw [h2] at hb;exact iu hb
  | false=>rw [h2] at hb;exact fx hb
def bd0 (list:List ep):Job→Prop
 | .E lv ws e r=>∀ n,AtW list n ws→∃ m,AtW list m r∧n<m∧fq list (n:Int) lv=some (e,((m:Nat):Int))
 | .L lv x ws e r=>(lv=1∨lv=2∨lv=3∨lv=4)→∀ n,AtW list n ws→∃ m,AtW list m r∧n≤m∧fy (λ(uA:Int × Int × Str × (List eu) × Int)=>((if decide (0≤uA.2.2.2.2) then (iw list uA.2.2.2.2 lv).bind λuG=>some (decide (0<uG)) else some false:Option (Bool)).bind λuH=>if uH then (iw list uA.2.2.2.2 lv).bind λuC=>(fq list (w64 (uA.2.2.2.2+1)) (w64 (lv+1))).bind λuE=>some (.inl (uC,0,(mkS []),([(⟨uA.1,uA.2.1,uA.2.2.1,uA.2.2.2.1⟩:eu),uE.1]:List eu),uE.2)) else some (.inr (uA.1,uA.2.1,uA.2.2.1,uA.2.2.2.1,uA.2.2.2.2)):Option ((Int × Int × Str × (List eu) × Int) ⊕ (Int × Int × Str × (List eu) × Int)))) (x.op,x.n_,x.name,x.kids,(n:Int))=some (e.op,e.n_,e.name,e.kids,((m:Nat):Int))
 | .A ws ks r=>∀ n,AtW list n ws→∃ m,AtW list m r∧n<m∧mG list (n:Int)=some (ks,((m:Nat):Int))
 | .M acc ws ks r=>∀ n,AtW list n ws→∀ q acc0 e,acc=acc0++[e]→acc.length≤n→fq list q 1=some (e,(n:Int))→∃ m,AtW list m r∧n<m∧fy (λ(uF:Int × (List eu))=>((fq list uF.1 1).bind λuB=>(fr uF.2 ([uB.1]:List eu)).bind λuD=>(if decide (uB.2<0) then some true else (iD list uB.2 (mkS [41])).bind λuC=>some uC:Option (Bool)).bind λuI=>if uI then (jw uB.2).bind λuJ=>some (.inr (uD,w64 (uB.2+uJ))) else (iD list uB.2 (mkS [44])).bind λuK=>if !(uK) then some (.inr (uD,-1)) else some (.inl (w64 (uB.2+1),uD)):Option ((Int × (List eu)) ⊕ ((List eu) × Int)))) (q,acc0)=some (ks,((m:Nat):Int))
theorem rA {list:List ep} (hlen:list.length≤1000) (hv:∀ w∈list,k9 w=true) {j:Job} (h:Rd j):bd0 list j:=by
 have hin:∀ {n w ws},AtW list n (w::ws)→k9 w=true:=λ{n w ws} ha=>hv w (List.mem_of_mem_drop (by rw [ha.1];simp))
 have hne:∀ {w:ep} {c:UInt8} {t:Str},k9 w=true→w.kind≠3→t.b=[c]→c∈nI→w.text≠t:=λ{w c t} h1 h2 h3 h4 e=>h2 (p8 h1 (by rw [e];exact h3) h4)
 induction h<;>simp only [bd0] at *
 case neg w ws e r hw h ih =>
  intro n ha
  obtain ⟨h1,h2,h3⟩:=jG ha
  obtain ⟨m,g1,g2,g3⟩:=ih (n+1) h3
  rw [nq] at g3
  exact ⟨m,g1,by omega,by rw [nq,kQ hlen ha,if_pos hw,g3];rfl⟩
 case at_ w ws e r hw h ih =>
  intro n ha
  obtain ⟨h1,h2,h3⟩:=jG ha
  obtain ⟨m,g1,g2,g3⟩:=ih (n+1) h3
  rw [nq] at g3
  exact ⟨m,g1,by omega,by rw [nq,kQ hlen ha,if_neg (by rw [hw];decide),if_pos hw,g3];rfl⟩
 case par w ws e v r hw h hv2 ih =>
  intro n ha
  obtain ⟨h1,h2,h3⟩:=jG ha
  obtain ⟨m,g1,g2,g3⟩:=ih (n+1) h3
  obtain ⟨k1,k2,k3⟩:=jG g1
  refine ⟨m+1,k3,by omega,?_⟩
  have e1:decide ((m:Int)<0)=false:=by simp
  have e2:isT (v::r) (mkS [41])=true:=by simp [isT,hv2]
  rw [nq,kQ hlen ha,if_neg (by rw [hw];decide),if_neg (by rw [hw];decide),if_pos hw,g3,obS]
  dsimp only
  rw [e1,tm g1,e2,sH (by omega)]
  rfl
 case num w r hw =>
  intro n ha
  obtain ⟨h1,h2,h3⟩:=jG ha
  have hk:w.kind≠3:=by omega
  exact ⟨n+1,h3,by omega,by rw [nq,kQ hlen ha,if_neg (hne (hin ha) hk rfl (by decide)),if_neg (hne (hin ha) hk rfl (by decide)),if_neg (hne (hin ha) hk rfl (by decide)),if_pos hw]⟩
 case var w r hw ht =>
  intro n ha
  obtain ⟨h1,h2,h3⟩:=jG ha
  have hk:w.kind≠3:=by omega
  exact ⟨n+1,h3,by omega,by rw [nq,kQ hlen ha,if_neg (hne (hin ha) hk rfl (by decide)),if_neg (hne (hin ha) hk rfl (by decide)),if_neg (hne (hin ha) hk rfl (by decide)),if_neg (by omega),if_neg (by omega),if_pos ht]⟩
 case call w v ws ks r hw ht h ih =>
  intro n ha
  obtain ⟨h1,h2,h3⟩:=jG ha
  obtain ⟨k1,k2,k3⟩:=jG h3
  obtain ⟨m,g1,g2,g3⟩:=ih (n+2) k3
  have hk:w.kind≠3:=by omega
  exact ⟨m,g1,by omega,by rw [nq,kQ hlen ha,if_neg (hne (hin ha) hk rfl (by decide)),if_neg (hne (hin ha) hk rfl (by decide)),if_neg (hne (hin ha) hk rfl (by decide)),if_neg (by omega),if_neg (by omega),if_neg (by simp [isT,ht]),g3];rfl⟩
 case up lv ws e ws' e' r hl h1 h2 ih1 ih2 =>
  intro n ha
  obtain ⟨m,g1,g2,g3⟩:=ih1 n ha
  obtain ⟨k,k1,k2,k3⟩:=ih2 hl m g1
  exact ⟨k,k1,by omega,by rw [xz hl,g3,obS,k3,obS];dsimp only;rw [rZ]⟩
 case stop lv e ws ho =>
  intro hl n ha
  exact ⟨n,ha,Nat.le_refl _,ap3 ha hl ho⟩
 case step lv e w ws f ws' e' r ho h1 h2 ih1 ih2 =>
  intro hl n ha
  obtain ⟨_,_,h3⟩:=jG ha
  obtain ⟨m,g1,g2,g3⟩:=ih1 (n+1) h3
  obtain ⟨k,k1,k2,k3⟩:=ih2 hl m g1
  exact ⟨k,k1,by omega,by rw [wG hlen ha hl ho g3,rZ];exact k3⟩
 case done v r hv2 =>
  intro n ha
  obtain ⟨_,_,h3⟩:=jG ha
  exact ⟨n+1,h3,by omega,by rw [vg hlen ha,if_pos (by simp [isT,hv2])]⟩
 case first ws e ws' ks r ht h1 h2 ih1 ih2 =>
  intro n ha
  obtain ⟨m,g1,g2,g3⟩:=ih1 n ha
  obtain ⟨k,k1,k2,k3⟩:=ih2 m g1 n [] e rfl (by simp;omega) g3
  exact ⟨k,k1,by omega,by rw [vg hlen ha,ht];exact k3⟩
 case last acc v r hv2 =>
  intro n ha q acc0 e he hle hr
  obtain ⟨h1,_,h3⟩:=jG ha
  refine ⟨n+1,h3,by omega,?_⟩
  rw [he] at hle ⊢
  simp at hle
  rw [sn hlen (by omega) ha hr,if_pos (by simp [isT,hv2])]
 case more acc v ws e ws' ks r hv2 h1 h2 ih1 ih2 =>
  intro n ha q acc0 e0 he hle hr
  obtain ⟨h1,_,h3⟩:=jG ha
  obtain ⟨m,g1,g2,g3⟩:=ih1 (n+1) h3
  obtain ⟨k,k1,k2,k3⟩:=ih2 m g1 ((n+1:Nat):Int) acc e rfl (by simp;omega) g3
  refine ⟨k,k1,by omega,?_⟩
  have hle2:=hle
  rw [he] at hle2
  simp at hle2
  rw [sn hlen (by omega) ha hr,if_neg (by simp [isT,hv2];try decide),if_pos (by simp [isT,hv2]),← he]
  exact k3
end Prg
end Go.Wk
namespace Go.Wk
open Go
namespace Prg
set_option maxRecDepth 10000
def vW (ws:List ep):Prop:=∀ w∈ws,k9 w=true
theorem kD {w:ep} {ws:List ep} (h:vW (w::ws)):vW ws:=λx hx=>h x (by simp [hx])
theorem ly {w:ep} {ws:List ep} (h:vW (w::ws)):k9 w=true:=h w (by simp)
def isS (w:ep) (t:Str):Bool:=decide (w.kind=3)&&decide (w.text=t)
theorem zR {w:ep} (h:k9 w=true) {t:Str} {c:UInt8} (ht:t.b=[c]) (hc:c∈nI):(decide (w.kind=3)&&decide (w.text=t))=decide (w.text=t):=by
 by_cases h2:w.text=t
 ·have := p8 h (by rw [h2]; exact ht) hc
  simp [h2,this]
 ·simp [h2]
theorem nX (r:ey):fC r 5=fk r:=by
 rw [fC,if_pos (by decide)]
 cases fk r<;>rfl
theorem an6 {r:ey} {lv:Int} (hl:lv=1∨lv=2∨lv=3∨lv=4) {x:eu} {ws:List ep} {b:Bool} {y:eu × ey} (h1:fC r (lv+1)=some (x,⟨ws,b⟩))
  (h2:fy (λ(uA:(List ep) × Bool × Int × Int × Str × (List eu))=>(if !(uA.2.1) then ((mW (λ(uB:Int × fN) (uH:Int)=>((if decide (uB.2.level=lv) then (fw (⟨uA.1,uA.2.1⟩:ey)).bind λuE=>(fK uB.2.sign).bind λuF=>some (decide (uE.kind=uF.kind)&&decide (uE.text=uF.text)) else some false:Option (Bool)).bind λuI=>(if uI then some uB.1 else some uH:Option (Int)).bind λuJ=>some uJ:Option (Int)).bind λuK=>some uK) (ez:jg fN).es 0).bind (λuL=>some uL):Option (Int)).bind λuG=>if decide (uG=0) then some (.inr (.inl ((⟨uA.2.2.1,uA.2.2.2.1,uA.2.2.2.2.1,uA.2.2.2.2.2⟩:eu),(⟨uA.1,uA.2.1⟩:ey)))) else (fX (⟨uA.1,uA.2.1⟩:ey)).bind λuM=>((fC uM.2 (w64 (lv+1))).bind λuC=>some (uC.2.list,uC.2.bad,([(⟨uA.2.2.1,uA.2.2.2.1,uA.2.2.2.2.1,uA.2.2.2.2.2⟩:eu),uC.1]:List eu)):Option ((List ep) × Bool × (List eu))).bind λuD=>some (.inl (uD.1,uD.2.1,uG,0,(mkS []),uD.2.2)) else some (.inr (.inr (uA.2.2.1,uA.2.2.2.1,uA.2.2.2.2.1,uA.2.2.2.2.2,uA.1,uA.2.1))):Option (((List ep) × Bool × Int × Int × Str × (List eu)) ⊕ ((eu × ey) ⊕ (Int × Int × Str × (List eu) × (List ep) × Bool))))) (ws,b,x.op,x.n_,x.name,x.kids)=some (.inl y)):fC r lv=some y:=by
 have e:w64 (lv+1)=lv+1:=gu (by omega) (by omega)
 have e2:decide (lv=5)=false:=by simp;omega
 rw [e] at h2
 rw [fC,e2]
 simp only [Bool.false_eq_true,if_false,e,h1,obS,h2]
 rfl
theorem vn {r:ey} {lv:Int} (hl:lv=1∨lv=2∨lv=3∨lv=4) {x:eu} {ws ws':List ep} {b b':Bool} {op n_:Int} {nm:Str} {ks:List eu} (h1:fC r (lv+1)=some (x,⟨ws,b⟩))
  (h2:fy (λ(uA:(List ep) × Bool × Int × Int × Str × (List eu))=>(if !(uA.2.1) then ((mW (λ(uB:Int × fN) (uH:Int)=>((if decide (uB.2.level=lv) then (fw (⟨uA.1,uA.2.1⟩:ey)).bind λuE=>(fK uB.2.sign).bind λuF=>some (decide (uE.kind=uF.kind)&&decide (uE.text=uF.text)) else some false:Option (Bool)).bind λuI=>(if uI then some uB.1 else some uH:Option (Int)).bind λuJ=>some uJ:Option (Int)).bind λuK=>some uK) (ez:jg fN).es 0).bind (λuL=>some uL):Option (Int)).bind λuG=>if decide (uG=0) then some (.inr (.inl ((⟨uA.2.2.1,uA.2.2.2.1,uA.2.2.2.2.1,uA.2.2.2.2.2⟩:eu),(⟨uA.1,uA.2.1⟩:ey)))) else (fX (⟨uA.1,uA.2.1⟩:ey)).bind λuM=>((fC uM.2 (w64 (lv+1))).bind λuC=>some (uC.2.list,uC.2.bad,([(⟨uA.2.2.1,uA.2.2.2.1,uA.2.2.2.2.1,uA.2.2.2.2.2⟩:eu),uC.1]:List eu)):Option ((List ep) × Bool × (List eu))).bind λuD=>some (.inl (uD.1,uD.2.1,uG,0,(mkS []),uD.2.2)) else some (.inr (.inr (uA.2.2.1,uA.2.2.2.1,uA.2.2.2.2.1,uA.2.2.2.2.2,uA.1,uA.2.1))):Option (((List ep) × Bool × Int × Int × Str × (List eu)) ⊕ ((eu × ey) ⊕ (Int × Int × Str × (List eu) × (List ep) × Bool))))) (ws,b,x.op,x.n_,x.name,x.kids)=some (.inr (op,n_,nm,ks,ws',b'))):fC r lv=some (⟨op,n_,nm,ks⟩,⟨ws',b'⟩):=by
 have e:w64 (lv+1)=lv+1:=gu (by omega) (by omega)
 have e2:decide (lv=5)=false:=by simp;omega
 rw [e] at h2
 rw [fC,e2]
 simp only [Bool.false_eq_true,if_false,e,h1,obS,h2]
 rfl
theorem x7 {lv:Int} {ws:List ep} {op n_:Int} {nm:Str} {ks:List eu}:fy (λ(uA:(List ep) × Bool × Int × Int × Str × (List eu))=>(if !(uA.2.1) then ((mW (λ(uB:Int × fN) (uH:Int)=>((if decide (uB.2.level=lv) then (fw (⟨uA.1,uA.2.1⟩:ey)).bind λuE=>(fK uB.2.sign).bind λuF=>some (decide (uE.kind=uF.kind)&&decide (uE.text=uF.text)) else some false:Option (Bool)).bind λuI=>(if uI then some uB.1 else some uH:Option (Int)).bind λuJ=>some uJ:Option (Int)).bind λuK=>some uK) (ez:jg fN).es 0).bind (λuL=>some uL):Option (Int)).bind λuG=>if decide (uG=0) then some (.inr (.inl ((⟨uA.2.2.1,uA.2.2.2.1,uA.2.2.2.2.1,uA.2.2.2.2.2⟩:eu),(⟨uA.1,uA.2.1⟩:ey)))) else (fX (⟨uA.1,uA.2.1⟩:ey)).bind λuM=>((fC uM.2 (w64 (lv+1))).bind λuC=>some (uC.2.list,uC.2.bad,([(⟨uA.2.2.1,uA.2.2.2.1,uA.2.2.2.2.1,uA.2.2.2.2.2⟩:eu),uC.1]:List eu)):Option ((List ep) × Bool × (List eu))).bind λuD=>some (.inl (uD.1,uD.2.1,uG,0,(mkS []),uD.2.2)) else some (.inr (.inr (uA.2.2.1,uA.2.2.2.1,uA.2.2.2.2.1,uA.2.2.2.2.2,uA.1,uA.2.1))):Option (((List ep) × Bool × Int × Int × Str × (List eu)) ⊕ ((eu × ey) ⊕ (Int × Int × Str × (List eu) × (List ep) × Bool))))) (ws,true,op,n_,nm,ks)=some (.inr (op,n_,nm,ks,ws,true)):=fx rfl
theorem ao1 {lv:Int} (hl:lv=1∨lv=2∨lv=3∨lv=4) {ws:List ep} (hw:vW ws) (ho:opT lv ws=0) {op n_:Int} {nm:Str} {ks:List eu} :
  fy (λ(uA:(List ep) × Bool × Int × Int × Str × (List eu))=>(if !(uA.2.1) then ((mW (λ(uB:Int × fN) (uH:Int)=>((if decide (uB.2.level=lv) then (fw (⟨uA.1,uA.2.1⟩:ey)).bind λuE=>(fK uB.2.sign).bind λuF=>some (decide (uE.kind=uF.kind)&&decide (uE.text=uF.text)) else some false:Option (Bool)).bind λuI=>(if uI then some uB.1 else some uH:Option (Int)).bind λuJ=>some uJ:Option (Int)).bind λuK=>some uK) (ez:jg fN).es 0).bind (λuL=>some uL):Option (Int)).bind λuG=>if decide (uG=0) then some (.inr (.inl ((⟨uA.2.2.1,uA.2.2.2.1,uA.2.2.2.2.1,uA.2.2.2.2.2⟩:eu),(⟨uA.1,uA.2.1⟩:ey)))) else (fX (⟨uA.1,uA.2.1⟩:ey)).bind λuM=>((fC uM.2 (w64 (lv+1))).bind λuC=>some (uC.2.list,uC.2.bad,([(⟨uA.2.2.1,uA.2.2.2.1,uA.2.2.2.2.1,uA.2.2.2.2.2⟩:eu),uC.1]:List eu)):Option ((List ep) × Bool × (List eu))).bind λuD=>some (.inl (uD.1,uD.2.1,uG,0,(mkS []),uD.2.2)) else some (.inr (.inr (uA.2.2.1,uA.2.2.2.1,uA.2.2.2.2.1,uA.2.2.2.2.2,uA.1,uA.2.1))):Option (((List ep) × Bool × Int × Int × Str × (List eu)) ⊕ ((eu × ey) ⊕ (Int × Int × Str × (List eu) × (List ep) × Bool))))) (ws,false,op,n_,nm,ks)=some (.inl (⟨op,n_,nm,ks⟩,⟨ws,false⟩)):=by
 refine fx ?_
 dsimp only
 rw [if_pos (show (!false)=true from rfl)]
 refine fS (fS (aj5 ws hw lv hl λp s=>?_) rfl) ?_
 ·simp only [rq,fK,obS]
  unfold qE
  by_cases c1:p.2.level=lv<;>by_cases c2:(pkW ws).kind=3<;>by_cases c3:(pkW ws).text=p.2.sign<;>simp [c1,c2,c3]
 ·rw [ho];rfl
theorem wm {lv:Int} (hl:lv=1∨lv=2∨lv=3∨lv=4) {w:ep} {ws:List ep} (hw:vW (w::ws)) (ho:opW lv w≠0) {op n_:Int} {nm:Str} {ks:List eu} {f:eu} {ws':List ep} {b:Bool}
  (hr:fC ⟨ws,false⟩ (lv+1)=some (f,⟨ws',b⟩)) :
  fy (λ(uA:(List ep) × Bool × Int × Int × Str × (List eu))=>(if !(uA.2.1) then ((mW (λ(uB:Int × fN) (uH:Int)=>((if decide (uB.2.level=lv) then (fw (⟨uA.1,uA.2.1⟩:ey)).bind λuE=>(fK uB.2.sign).bind λuF=>some (decide (uE.kind=uF.kind)&&decide (uE.text=uF.text)) else some false:Option (Bool)).bind λuI=>(if uI then some uB.1 else some uH:Option (Int)).bind λuJ=>some uJ:Option (Int)).bind λuK=>some uK) (ez:jg fN).es 0).bind (λuL=>some uL):Option (Int)).bind λuG=>if decide (uG=0) then some (.inr (.inl ((⟨uA.2.2.1,uA.2.2.2.1,uA.2.2.2.2.1,uA.2.2.2.2.2⟩:eu),(⟨uA.1,uA.2.1⟩:ey)))) else (fX (⟨uA.1,uA.2.1⟩:ey)).bind λuM=>((fC uM.2 (w64 (lv+1))).bind λuC=>some (uC.2.list,uC.2.bad,([(⟨uA.2.2.1,uA.2.2.2.1,uA.2.2.2.2.1,uA.2.2.2.2.2⟩:eu),uC.1]:List eu)):Option ((List ep) × Bool × (List eu))).bind λuD=>some (.inl (uD.1,uD.2.1,uG,0,(mkS []),uD.2.2)) else some (.inr (.inr (uA.2.2.1,uA.2.2.2.1,uA.2.2.2.2.1,uA.2.2.2.2.2,uA.1,uA.2.1))):Option (((List ep) × Bool × Int × Int × Str × (List eu)) ⊕ ((eu × ey) ⊕ (Int × Int × Str × (List eu) × (List ep) × Bool))))) (w::ws,false,op,n_,nm,ks)=fy (λ(uA:(List ep) × Bool × Int × Int × Str × (List eu))=>(if !(uA.2.1) then ((mW (λ(uB:Int × fN) (uH:Int)=>((if decide (uB.2.level=lv) then (fw (⟨uA.1,uA.2.1⟩:ey)).bind λuE=>(fK uB.2.sign).bind λuF=>some (decide (uE.kind=uF.kind)&&decide (uE.text=uF.text)) else some false:Option (Bool)).bind λuI=>(if uI then some uB.1 else some uH:Option (Int)).bind λuJ=>some uJ:Option (Int)).bind λuK=>some uK) (ez:jg fN).es 0).bind (λuL=>some uL):Option (Int)).bind λuG=>if decide (uG=0) then some (.inr (.inl ((⟨uA.2.2.1,uA.2.2.2.1,uA.2.2.2.2.1,uA.2.2.2.2.2⟩:eu),(⟨uA.1,uA.2.1⟩:ey)))) else (fX (⟨uA.1,uA.2.1⟩:ey)).bind λuM=>((fC uM.2 (w64 (lv+1))).bind λuC=>some (uC.2.list,uC.2.bad,([(⟨uA.2.2.1,uA.2.2.2.1,uA.2.2.2.2.1,uA.2.2.2.2.2⟩:eu),uC.1]:List eu)):Option ((List ep) × Bool × (List eu))).bind λuD=>some (.inl (uD.1,uD.2.1,uG,0,(mkS []),uD.2.2)) else some (.inr (.inr (uA.2.2.1,uA.2.2.2.1,uA.2.2.2.2.1,uA.2.2.2.2.2,uA.1,uA.2.1))):Option (((List ep) × Bool × Int × Int × Str × (List eu)) ⊕ ((eu × ey) ⊕ (Int × Int × Str × (List eu) × (List ep) × Bool))))) (ws',b,opW lv w,0,mkS [],[⟨op,n_,nm,ks⟩,f]):=by
 refine iu ?_
 dsimp only
 rw [if_pos (show (!false)=true from rfl)]
 refine fS (fS (aj5 (w::ws) hw lv hl λp s=>?_) rfl) ?_
 ·simp only [rq,fK,obS]
  unfold qE
  by_cases c1:p.2.level=lv<;>by_cases c2:(pkW (w::ws)).kind=3<;>by_cases c3:(pkW (w::ws)).text=p.2.sign<;>simp [c1,c2,c3]
 ·have e2:decide (opT lv (w::ws)=0)=false:=decide_eq_false ho
  have e:w64 (lv+1)=lv+1:=gu (by omega) (by omega)
  rw [e2,oY,e,obS,hr]
  rfl
theorem aa3:fk ⟨[],false⟩=some (⟨0,0,mkS [],[]⟩,⟨[],true⟩):=by
 rw [fk,q7];rfl
theorem zz (ws:List ep):∃ ws',fk ⟨ws,true⟩=some (⟨0,0,mkS [],[]⟩,⟨ws',true⟩):=by
 cases ws with
 | nil=>exact ⟨[],by rw [fk,q7];rfl⟩
 | cons w ws=>exact ⟨ws,by rw [fk,oY];rfl⟩
theorem jt {w:ep} {ws:List ep} (hw:vW (w::ws)):fk ⟨w::ws,false⟩ =
  if w.text=mkS [33] then (fk ⟨ws,false⟩).bind λr=>some (⟨11,0,mkS [],[r.1]⟩,r.2)
  else if w.text=mkS [64] then (fk ⟨ws,false⟩).bind λr=>some (⟨12,0,mkS [],[r.1]⟩,r.2)
  else if w.text=mkS [40] then (fC ⟨ws,false⟩ 1).bind λr=>(fB r.2 3 (mkS [41])).bind λq=>some (r.1,q)
  else if w.kind=2 then some (⟨1,xF w,mkS [],[]⟩,⟨ws,false⟩)
  else if w.kind≠1 then some (⟨0,0,mkS [],[]⟩,⟨ws,true⟩)
  else if isT ws (mkS [40])=false then some (⟨2,0,w.text,[]⟩,⟨ws,false⟩)
  else (fy (λ(uA:(List ep) × Bool × (List eu))=>((if !(uA.2.1) then (fI (⟨uA.1,uA.2.1⟩:ey) 3 (mkS [41])).bind λuC=>some (uC.2.list,uC.2.bad,!(uC.1)) else some (uA.1,uA.2.1,false):Option ((List ep) × Bool × Bool)).bind λuB=>if uB.2.2 then (if decide (0<((uA.2.2.length:Int))) then (fB (⟨uB.1,uB.2.1⟩:ey) 3 (mkS [44])).bind λuE=>some (uE.list,uE.bad) else some (uB.1,uB.2.1):Option ((List ep) × Bool)).bind λuF=>(fC (⟨uF.1,uF.2⟩:ey) 1).bind λuD=>(fr uA.2.2 ([uD.1]:List eu)).bind λuG=>some (.inl (uD.2.list,uD.2.bad,uG)) else some (.inr (uA.2.2,uB.1,uB.2.1)):Option (((List ep) × Bool × (List eu)) ⊕ ((List eu) × (List ep) × Bool)))) (ws.tail,false,[])).bind λs=>some (⟨13,0,w.text,s.1⟩,⟨s.2.1,s.2.2⟩):=by
 have h0:=ly hw
 have a1:=zR h0 (t:=mkS [33]) rfl (by decide)
 have a2:=zR h0 (t:=mkS [64]) rfl (by decide)
 have a3:=zR h0 (t:=mkS [40]) rfl (by decide)
 rw [fk,oY]
 simp only [obS,Bool.false_eq_true,if_false,fK,a1,a2,a3,ag6,lZ,qH (kD hw) (t:=mkS [40]) rfl (by decide),ak1,decide_eq_true_eq]
 by_cases c1:w.text=mkS [33]
 ·simp only [c1,if_true]
 by_cases c2:w.text=mkS [64]
 ·simp only [c1,c2,if_true,if_false]
 by_cases c3:w.text=mkS [40]
 ·simp only [c1,c2,c3,if_true,if_false]
 by_cases c4:w.kind=2
 ·simp only [c1,c2,c3,c4,if_true,if_false]
 by_cases c5:w.kind=1
 ·cases c6:isT ws (mkS [40])<;>simp [c1,c2,c3,c5]
 ·simp [c1,c2,c3,c4,c5]
theorem qi (lv:Int) (hl:lv=1∨lv=2∨lv=3∨lv=4∨lv=5) (ws:List ep):∃ e ws',fC ⟨ws,true⟩ lv=some (e,⟨ws',true⟩):=by
 have h5:∃ e ws',fC ⟨ws,true⟩ 5=some (e,⟨ws',true⟩):=by
  obtain ⟨ws',h⟩:=zz ws
  exact ⟨_,ws',by rw [nX];exact h⟩
 have hs:∀ lv:Int,(lv=1∨lv=2∨lv=3∨lv=4)→(∃ e ws',fC ⟨ws,true⟩ (lv+1)=some (e,⟨ws',true⟩))→∃ e ws',fC ⟨ws,true⟩ lv=some (e,⟨ws',true⟩):=by
  rintro lv hl ⟨e,ws',h⟩
  exact ⟨_,_,vn hl h x7⟩
 have h4:=hs 4 (by omega) h5
 have h3:=hs 3 (by omega) h4
 have h2:=hs 2 (by omega) h3
 have h1:=hs 1 (by omega) h2
 rcases hl with rfl | rfl | rfl | rfl | rfl<;>assumption
theorem yD {ws:List ep} {ks:List eu}:fy (λ(uA:(List ep) × Bool × (List eu))=>((if !(uA.2.1) then (fI (⟨uA.1,uA.2.1⟩:ey) 3 (mkS [41])).bind λuC=>some (uC.2.list,uC.2.bad,!(uC.1)) else some (uA.1,uA.2.1,false):Option ((List ep) × Bool × Bool)).bind λuB=>if uB.2.2 then (if decide (0<((uA.2.2.length:Int))) then (fB (⟨uB.1,uB.2.1⟩:ey) 3 (mkS [44])).bind λuE=>some (uE.list,uE.bad) else some (uB.1,uB.2.1):Option ((List ep) × Bool)).bind λuF=>(fC (⟨uF.1,uF.2⟩:ey) 1).bind λuD=>(fr uA.2.2 ([uD.1]:List eu)).bind λuG=>some (.inl (uD.2.list,uD.2.bad,uG)) else some (.inr (uA.2.2,uB.1,uB.2.1)):Option (((List ep) × Bool × (List eu)) ⊕ ((List eu) × (List ep) × Bool)))) (ws,true,ks)=some (ks,ws,true):=fx rfl
theorem ag3 {v:ep} {ws:List ep} (hw:vW (v::ws)) (hv:v.text=mkS [41]) {ks:List eu}:fy (λ(uA:(List ep) × Bool × (List eu))=>((if !(uA.2.1) then (fI (⟨uA.1,uA.2.1⟩:ey) 3 (mkS [41])).bind λuC=>some (uC.2.list,uC.2.bad,!(uC.1)) else some (uA.1,uA.2.1,false):Option ((List ep) × Bool × Bool)).bind λuB=>if uB.2.2 then (if decide (0<((uA.2.2.length:Int))) then (fB (⟨uB.1,uB.2.1⟩:ey) 3 (mkS [44])).bind λuE=>some (uE.list,uE.bad) else some (uB.1,uB.2.1):Option ((List ep) × Bool)).bind λuF=>(fC (⟨uF.1,uF.2⟩:ey) 1).bind λuD=>(fr uA.2.2 ([uD.1]:List eu)).bind λuG=>some (.inl (uD.2.list,uD.2.bad,uG)) else some (.inr (uA.2.2,uB.1,uB.2.1)):Option (((List ep) × Bool × (List eu)) ⊕ ((List eu) × (List ep) × Bool)))) (v::ws,false,ks)=some (ks,ws,false):=by
 refine fx ?_
 have e:isT (v::ws) (mkS [41])=true:=by simp [isT,hv]
 simp only [lZ,qH hw (t:=mkS [41]) rfl (by decide),e]
 rfl
theorem tD {ws:List ep} (hw:vW ws) (ht:isT ws (mkS [41])=false) {e:eu} {ws':List ep} {b:Bool} (hr:fC ⟨ws,false⟩ 1=some (e,⟨ws',b⟩)) :
  fy (λ(uA:(List ep) × Bool × (List eu))=>((if !(uA.2.1) then (fI (⟨uA.1,uA.2.1⟩:ey) 3 (mkS [41])).bind λuC=>some (uC.2.list,uC.2.bad,!(uC.1)) else some (uA.1,uA.2.1,false):Option ((List ep) × Bool × Bool)).bind λuB=>if uB.2.2 then (if decide (0<((uA.2.2.length:Int))) then (fB (⟨uB.1,uB.2.1⟩:ey) 3 (mkS [44])).bind λuE=>some (uE.list,uE.bad) else some (uB.1,uB.2.1):Option ((List ep) × Bool)).bind λuF=>(fC (⟨uF.1,uF.2⟩:ey) 1).bind λuD=>(fr uA.2.2 ([uD.1]:List eu)).bind λuG=>some (.inl (uD.2.list,uD.2.bad,uG)) else some (.inr (uA.2.2,uB.1,uB.2.1)):Option (((List ep) × Bool × (List eu)) ⊕ ((List eu) × (List ep) × Bool)))) (ws,false,[])=fy (λ(uA:(List ep) × Bool × (List eu))=>((if !(uA.2.1) then (fI (⟨uA.1,uA.2.1⟩:ey) 3 (mkS [41])).bind λuC=>some (uC.2.list,uC.2.bad,!(uC.1)) else some (uA.1,uA.2.1,false):Option ((List ep) × Bool × Bool)).bind λuB=>if uB.2.2 then (if decide (0<((uA.2.2.length:Int))) then (fB (⟨uB.1,uB.2.1⟩:ey) 3 (mkS [44])).bind λuE=>some (uE.list,uE.bad) else some (uB.1,uB.2.1):Option ((List ep) × Bool)).bind λuF=>(fC (⟨uF.1,uF.2⟩:ey) 1).bind λuD=>(fr uA.2.2 ([uD.1]:List eu)).bind λuG=>some (.inl (uD.2.list,uD.2.bad,uG)) else some (.inr (uA.2.2,uB.1,uB.2.1)):Option (((List ep) × Bool × (List eu)) ⊕ ((List eu) × (List ep) × Bool)))) (ws',b,[e]):=by
 refine iu ?_
 simp only [lZ,qH hw (t:=mkS [41]) rfl (by decide),ht]
 have e0:decide (0<(([]:List eu).length:Int))=false:=rfl
 simp only [Bool.not_false,if_true,obS,e0,Bool.false_eq_true,if_false,hr]
 rfl
theorem vu {acc:List eu} (h0:acc≠[]) (hal:acc.length≤1000) {v:ep} {ws:List ep} (hw:vW (v::ws)) (hv:v.text=mkS [44]) {e:eu} {ws':List ep} {b:Bool} (hr:fC ⟨ws,false⟩ 1=some (e,⟨ws',b⟩)) :
  fy (λ(uA:(List ep) × Bool × (List eu))=>((if !(uA.2.1) then (fI (⟨uA.1,uA.2.1⟩:ey) 3 (mkS [41])).bind λuC=>some (uC.2.list,uC.2.bad,!(uC.1)) else some (uA.1,uA.2.1,false):Option ((List ep) × Bool × Bool)).bind λuB=>if uB.2.2 then (if decide (0<((uA.2.2.length:Int))) then (fB (⟨uB.1,uB.2.1⟩:ey) 3 (mkS [44])).bind λuE=>some (uE.list,uE.bad) else some (uB.1,uB.2.1):Option ((List ep) × Bool)).bind λuF=>(fC (⟨uF.1,uF.2⟩:ey) 1).bind λuD=>(fr uA.2.2 ([uD.1]:List eu)).bind λuG=>some (.inl (uD.2.list,uD.2.bad,uG)) else some (.inr (uA.2.2,uB.1,uB.2.1)):Option (((List ep) × Bool × (List eu)) ⊕ ((List eu) × (List ep) × Bool)))) (v::ws,false,acc)=fy (λ(uA:(List ep) × Bool × (List eu))=>((if !(uA.2.1) then (fI (⟨uA.1,uA.2.1⟩:ey) 3 (mkS [41])).bind λuC=>some (uC.2.list,uC.2.bad,!(uC.1)) else some (uA.1,uA.2.1,false):Option ((List ep) × Bool × Bool)).bind λuB=>if uB.2.2 then (if decide (0<((uA.2.2.length:Int))) then (fB (⟨uB.1,uB.2.1⟩:ey) 3 (mkS [44])).bind λuE=>some (uE.list,uE.bad) else some (uB.1,uB.2.1):Option ((List ep) × Bool)).bind λuF=>(fC (⟨uF.1,uF.2⟩:ey) 1).bind λuD=>(fr uA.2.2 ([uD.1]:List eu)).bind λuG=>some (.inl (uD.2.list,uD.2.bad,uG)) else some (.inr (uA.2.2,uB.1,uB.2.1)):Option (((List ep) × Bool × (List eu)) ⊕ ((List eu) × (List ep) × Bool)))) (ws',b,acc++[e]):=by
 refine iu ?_
 have e1:isT (v::ws) (mkS [41])=false:=by simp [isT,hv];decide
 have e2:isT (v::ws) (mkS [44])=true:=by simp [isT,hv]
 have e0:decide (0<(acc.length:Int))=true:=by have:=List.length_pos_iff.2 h0;simp;omega
 simp only [lZ,qH hw (t:=mkS [41]) rfl (by decide),pz,qH hw (t:=mkS [44]) rfl (by decide),e1,e2,Bool.not_false,if_true,obS,e0,Bool.false_eq_true,if_false,List.tail_cons,hr,jM (show acc.length+[e].length≤2147483648 by simp;omega)]
theorem zI {acc:List eu} (h0:acc≠[]) (hal:acc.length≤1000) {ws:List ep} (hw:vW ws) (h1:isT ws (mkS [41])=false) (h2:isT ws (mkS [44])=false) :
  ∃ ks ws',fy (λ(uA:(List ep) × Bool × (List eu))=>((if !(uA.2.1) then (fI (⟨uA.1,uA.2.1⟩:ey) 3 (mkS [41])).bind λuC=>some (uC.2.list,uC.2.bad,!(uC.1)) else some (uA.1,uA.2.1,false):Option ((List ep) × Bool × Bool)).bind λuB=>if uB.2.2 then (if decide (0<((uA.2.2.length:Int))) then (fB (⟨uB.1,uB.2.1⟩:ey) 3 (mkS [44])).bind λuE=>some (uE.list,uE.bad) else some (uB.1,uB.2.1):Option ((List ep) × Bool)).bind λuF=>(fC (⟨uF.1,uF.2⟩:ey) 1).bind λuD=>(fr uA.2.2 ([uD.1]:List eu)).bind λuG=>some (.inl (uD.2.list,uD.2.bad,uG)) else some (.inr (uA.2.2,uB.1,uB.2.1)):Option (((List ep) × Bool × (List eu)) ⊕ ((List eu) × (List ep) × Bool)))) (ws,false,acc)=some (ks,ws',true):=by
 obtain ⟨e,ws',hr⟩:=qi 1 (by omega) ws
 refine ⟨acc++[e],ws',?_⟩
 rw [iu (s':=(ws',true,acc++[e]))]
 ·exact yD
 have e0:decide (0<(acc.length:Int))=true:=by have:=List.length_pos_iff.2 h0;simp;omega
 simp only [lZ,qH hw (t:=mkS [41]) rfl (by decide),pz,qH hw (t:=mkS [44]) rfl (by decide),h1,h2,Bool.not_false,if_true,obS,e0,Bool.false_eq_true,if_false,hr,jM (show acc.length+[e].length≤2147483648 by simp;omega)]
end Prg
end Go.Wk
namespace Go.Wk
open Go
namespace Prg
set_option maxRecDepth 10000
def bk7:Job→Prop
 | .E lv ws e r=>vW ws→ws.length≤1000→fC ⟨ws,false⟩ lv=some (e,⟨r,false⟩)
 | .L lv x ws e r=>(lv=1∨lv=2∨lv=3∨lv=4)→vW ws→ws.length≤1000→fy (λ(uA:(List ep) × Bool × Int × Int × Str × (List eu))=>(if !(uA.2.1) then ((mW (λ(uG:Int × fN) (uL:Int)=>((if decide (uG.2.level=lv) then (fw (⟨uA.1,uA.2.1⟩:ey)).bind λuJ=>(fK uG.2.sign).bind λuK=>some (decide (uJ.kind=uK.kind)&&decide (uJ.text=uK.text)) else some false:Option (Bool)).bind λuM=>(if uM then some uG.1 else some uL:Option (Int)).bind λuN=>some uN:Option (Int)).bind λuO=>some uO) (ez:jg fN).es 0).bind (λuP=>some uP):Option (Int)).bind λuB=>if decide (uB=0) then some (.inr (.inl ((⟨uA.2.2.1,uA.2.2.2.1,uA.2.2.2.2.1,uA.2.2.2.2.2⟩:eu),(⟨uA.1,uA.2.1⟩:ey)))) else (fX (⟨uA.1,uA.2.1⟩:ey)).bind λuC=>((fC uC.2 (w64 (lv+1))).bind λuH=>some (uH.2.list,uH.2.bad,([(⟨uA.2.2.1,uA.2.2.2.1,uA.2.2.2.2.1,uA.2.2.2.2.2⟩:eu),uH.1]:List eu)):Option ((List ep) × Bool × (List eu))).bind λuD=>some (.inl (uD.1,uD.2.1,uB,0,(mkS []),uD.2.2)) else some (.inr (.inr (uA.2.2.1,uA.2.2.2.1,uA.2.2.2.2.1,uA.2.2.2.2.2,uA.1,uA.2.1))):Option (((List ep) × Bool × Int × Int × Str × (List eu)) ⊕ ((eu × ey) ⊕ (Int × Int × Str × (List eu) × (List ep) × Bool))))) (ws,false,x.op,x.n_,x.name,x.kids)=some (.inl (e,⟨r,false⟩))
 | .A ws ks r=>vW ws→ws.length≤1000→fy (λ(uA:(List ep) × Bool × (List eu))=>((if !(uA.2.1) then (fI (⟨uA.1,uA.2.1⟩:ey) 3 (mkS [41])).bind λuE=>some (uE.2.list,uE.2.bad,!(uE.1)) else some (uA.1,uA.2.1,false):Option ((List ep) × Bool × Bool)).bind λuB=>if uB.2.2 then (if decide (0<((uA.2.2.length:Int))) then (fB (⟨uB.1,uB.2.1⟩:ey) 3 (mkS [44])).bind λuF=>some (uF.list,uF.bad) else some (uB.1,uB.2.1):Option ((List ep) × Bool)).bind λuD=>(fC (⟨uD.1,uD.2⟩:ey) 1).bind λuC=>(fr uA.2.2 ([uC.1]:List eu)).bind λuI=>some (.inl (uC.2.list,uC.2.bad,uI)) else some (.inr (uA.2.2,uB.1,uB.2.1)):Option (((List ep) × Bool × (List eu)) ⊕ ((List eu) × (List ep) × Bool)))) (ws,false,[])=some (ks,r,false)
 | .M acc ws ks r=>acc≠[]→vW ws→acc.length+ws.length≤1000→fy (λ(uA:(List ep) × Bool × (List eu))=>((if !(uA.2.1) then (fI (⟨uA.1,uA.2.1⟩:ey) 3 (mkS [41])).bind λuE=>some (uE.2.list,uE.2.bad,!(uE.1)) else some (uA.1,uA.2.1,false):Option ((List ep) × Bool × Bool)).bind λuB=>if uB.2.2 then (if decide (0<((uA.2.2.length:Int))) then (fB (⟨uB.1,uB.2.1⟩:ey) 3 (mkS [44])).bind λuF=>some (uF.list,uF.bad) else some (uB.1,uB.2.1):Option ((List ep) × Bool)).bind λuD=>(fC (⟨uD.1,uD.2⟩:ey) 1).bind λuC=>(fr uA.2.2 ([uC.1]:List eu)).bind λuI=>some (.inl (uC.2.list,uC.2.bad,uI)) else some (.inr (uA.2.2,uB.1,uB.2.1)):Option (((List ep) × Bool × (List eu)) ⊕ ((List eu) × (List ep) × Bool)))) (ws,false,acc)=some (ks,r,false)
theorem mo {w:ep} {c:UInt8} {t:Str} (h1:k9 w=true) (h2:w.kind≠3) (h3:t.b=[c]) (h4:c∈nI):w.text≠t:=λe=>h2 (p8 h1 (by rw [e];exact h3) h4)
theorem oz {j:Job} (h:Rd j):bk7 j:=by
 induction h
 case neg w ws e r hw h ih =>
  intro ha hl
  have g:=ih (kD ha) (by simp at hl;omega)
  rw [nX] at g
  rw [nX,jt ha,if_pos hw,g];rfl
 case at_ w ws e r hw h ih =>
  intro ha hl
  have g:=ih (kD ha) (by simp at hl;omega)
  rw [nX] at g
  rw [nX,jt ha,if_neg (by rw [hw];decide),if_pos hw,g];rfl
 case par w ws e v r hw h hv2 ih =>
  intro ha hl
  have g:=ih (kD ha) (by simp at hl;omega)
  obtain ⟨s1,s2⟩:=og h
  have hv3:vW (v::r):=λx hx=>kD ha x (s2 x hx)
  have e2:isT (v::r) (mkS [41])=true:=by simp [isT,hv2]
  rw [nX,jt ha,if_neg (by rw [hw];decide),if_neg (by rw [hw];decide),if_pos hw,g,obS]
  dsimp only
  rw [pz,qH hv3 rfl (by decide),e2];rfl
 case num w r hw =>
  intro ha hl
  have hk:w.kind≠3:=by omega
  have h0:=ly ha
  rw [nX,jt ha,if_neg (mo h0 hk rfl (by decide)),if_neg (mo h0 hk rfl (by decide)),if_neg (mo h0 hk rfl (by decide)),if_pos hw]
 case var w r hw ht =>
  intro ha hl
  have hk:w.kind≠3:=by omega
  have h0:=ly ha
  rw [nX,jt ha,if_neg (mo h0 hk rfl (by decide)),if_neg (mo h0 hk rfl (by decide)),if_neg (mo h0 hk rfl (by decide)),if_neg (by omega),if_neg (by omega),if_pos ht]
 case call w v ws ks r hw ht h ih =>
  intro ha hl
  have hk:w.kind≠3:=by omega
  have h0:=ly ha
  have g:=ih (kD (kD ha)) (by simp at hl;omega)
  rw [nX,jt ha,if_neg (mo h0 hk rfl (by decide)),if_neg (mo h0 hk rfl (by decide)),if_neg (mo h0 hk rfl (by decide)),if_neg (by omega),if_neg (by omega),if_neg (by simp [isT,ht]),List.tail_cons,g];rfl
 case up lv ws e ws' e' r hlv h1 h2 ih1 ih2 =>
  intro ha hl
  obtain ⟨s1,s2⟩:=og h1
  exact an6 hlv (ih1 ha hl) (ih2 hlv (λx hx=>ha x (s2 x hx)) (by omega))
 case stop lv e ws ho =>
  intro hlv ha hl
  rw [ao1 hlv ha ho,rZ]
 case step lv e w ws f ws' e' r ho h1 h2 ih1 ih2 =>
  intro hlv ha hl
  obtain ⟨s1,s2⟩:=og h1
  simp at hl
  rw [wm hlv ha ho (ih1 (kD ha) (by omega)),rZ]
  exact ih2 hlv (λx hx=>kD ha x (s2 x hx)) (by omega)
 case done v r hv2 =>
  intro ha hl
  exact ag3 ha hv2
 case first ws e ws' ks r ht h1 h2 ih1 ih2 =>
  intro ha hl
  obtain ⟨s1,s2⟩:=og h1
  rw [tD ha ht (ih1 ha hl)]
  exact ih2 (by simp) (λx hx=>ha x (s2 x hx)) (by simp;omega)
 case last acc v r hv2 =>
  intro h0 ha hl
  exact ag3 ha hv2
 case more acc v ws e ws' ks r hv2 h1 h2 ih1 ih2 =>
  intro h0 ha hl
  obtain ⟨s1,s2⟩:=og h1
  simp at hl
  rw [vu h0 (by omega) ha hv2 (ih1 (kD ha) (by omega))]
  exact ih2 (by simp) (λx hx=>kD ha x (s2 x hx)) (by simp;omega)
def an0 (lv:Int) (ws:List ep):Prop:=(∀ list n,list.length≤1000→vW list→AtW list n ws→∃ e,fq list (n:Int) lv=some (e,-1))∧∃ e ws',fC ⟨ws,false⟩ lv=some (e,⟨ws',true⟩)
def bl0 (lv : Int) (x : eu) (ws : List ep) : Prop := (∀ list n, list.length ≤ 1000 → vW list → AtW list n ws → ∃ op n_ nm ks, fy (fun (uA : Int × Int × Str × (List eu) × Int) => ((if decide (0 ≤ uA.2.2.2.2) then (iw list uA.2.2.2.2 lv).bind fun uJ => some (decide (0 < uJ)) else some false : Option (Bool)).bind fun uB => if uB then (iw list uA.2.2.2.2 lv).bind fun uC => (fq list (w64 (uA.2.2.2.2 + 1)) (w64 (lv + 1))).bind fun uG => some (.inl (uC, 0, (mkS []), ([(⟨uA.1, uA.2.1, uA.2.2.1, uA.2.2.2.1⟩ : eu), uG.1] : List eu), uG.2)) else some (.inr (uA.1, uA.2.1, uA.2.2.1, uA.2.2.2.1, uA.2.2.2.2)) : Option ((Int × Int × Str × (List eu) × Int) ⊕ (Int × Int × Str × (List eu) × Int)))) (x.op, x.n_, x.name, x.kids, (n : Int)) = some (op, n_, nm, ks, -1)) ∧
 ∃ op n_ nm ks ws',fy (λ(uA:(List ep) × Bool × Int × Int × Str × (List eu))=>(if !(uA.2.1) then ((mW (λ(uD:Int × fN) (uK:Int)=>((if decide (uD.2.level=lv) then (fw (⟨uA.1,uA.2.1⟩:ey)).bind λuH=>(fK uD.2.sign).bind λuI=>some (decide (uH.kind=uI.kind)&&decide (uH.text=uI.text)) else some false:Option (Bool)).bind λuL=>(if uL then some uD.1 else some uK:Option (Int)).bind λuM=>some uM:Option (Int)).bind λuN=>some uN) (ez:jg fN).es 0).bind (λuO=>some uO):Option (Int)).bind λuB=>if decide (uB=0) then some (.inr (.inl ((⟨uA.2.2.1,uA.2.2.2.1,uA.2.2.2.2.1,uA.2.2.2.2.2⟩:eu),(⟨uA.1,uA.2.1⟩:ey)))) else (fX (⟨uA.1,uA.2.1⟩:ey)).bind λuC=>((fC uC.2 (w64 (lv+1))).bind λuE=>some (uE.2.list,uE.2.bad,([(⟨uA.2.2.1,uA.2.2.2.1,uA.2.2.2.2.1,uA.2.2.2.2.2⟩:eu),uE.1]:List eu)):Option ((List ep) × Bool × (List eu))).bind λuF=>some (.inl (uF.1,uF.2.1,uB,0,(mkS []),uF.2.2)) else some (.inr (.inr (uA.2.2.1,uA.2.2.2.1,uA.2.2.2.2.1,uA.2.2.2.2.2,uA.1,uA.2.1))):Option (((List ep) × Bool × Int × Int × Str × (List eu)) ⊕ ((eu × ey) ⊕ (Int × Int × Str × (List eu) × (List ep) × Bool))))) (ws,false,x.op,x.n_,x.name,x.kids)=some (.inr (op,n_,nm,ks,ws',true))
def bj9 (ws:List ep):Prop:=(∀ list n,list.length≤1000→vW list→AtW list n ws→∃ ks,mG list (n:Int)=some (ks,-1)) ∧
 ∃ ks ws',fy (λ(uA:(List ep) × Bool × (List eu))=>((if !(uA.2.1) then (fI (⟨uA.1,uA.2.1⟩:ey) 3 (mkS [41])).bind λuC=>some (uC.2.list,uC.2.bad,!(uC.1)) else some (uA.1,uA.2.1,false):Option ((List ep) × Bool × Bool)).bind λuB=>if uB.2.2 then (if decide (0<((uA.2.2.length:Int))) then (fB (⟨uB.1,uB.2.1⟩:ey) 3 (mkS [44])).bind λuE=>some (uE.list,uE.bad) else some (uB.1,uB.2.1):Option ((List ep) × Bool)).bind λuF=>(fC (⟨uF.1,uF.2⟩:ey) 1).bind λuD=>(fr uA.2.2 ([uD.1]:List eu)).bind λuG=>some (.inl (uD.2.list,uD.2.bad,uG)) else some (.inr (uA.2.2,uB.1,uB.2.1)):Option (((List ep) × Bool × (List eu)) ⊕ ((List eu) × (List ep) × Bool)))) (ws,false,[])=some (ks,ws',true)
def bl7 (acc : List eu) (ws : List ep) : Prop := (∀ list n, list.length ≤ 1000 → vW list → AtW list n ws → ∀ q acc0 e, acc = acc0 ++ [e] → acc.length ≤ n → fq list q 1 = some (e, (n : Int)) → ∃ ks, fy (fun (uG : Int × (List eu)) => ((fq list uG.1 1).bind fun uB => (fr uG.2 ([uB.1] : List eu)).bind fun uE => (if decide (uB.2 < 0) then some true else (iD list uB.2 (mkS [41])).bind fun uD => some uD : Option (Bool)).bind fun uJ => if uJ then (jw uB.2).bind fun uK => some (.inr (uE, w64 (uB.2 + uK))) else (iD list uB.2 (mkS [44])).bind fun uL => if !(uL) then some (.inr (uE, -1)) else some (.inl (w64 (uB.2 + 1), uE)) : Option ((Int × (List eu)) ⊕ ((List eu) × Int)))) (q, acc0) = some (ks, -1)) ∧
 ∃ ks ws',fy (λ(uA:(List ep) × Bool × (List eu))=>((if !(uA.2.1) then (fI (⟨uA.1,uA.2.1⟩:ey) 3 (mkS [41])).bind λuF=>some (uF.2.list,uF.2.bad,!(uF.1)) else some (uA.1,uA.2.1,false):Option ((List ep) × Bool × Bool)).bind λuC=>if uC.2.2 then (if decide (0<((uA.2.2.length:Int))) then (fB (⟨uC.1,uC.2.1⟩:ey) 3 (mkS [44])).bind λuH=>some (uH.list,uH.bad) else some (uC.1,uC.2.1):Option ((List ep) × Bool)).bind λuI=>(fC (⟨uI.1,uI.2⟩:ey) 1).bind λuD=>(fr uA.2.2 ([uD.1]:List eu)).bind λuM=>some (.inl (uD.2.list,uD.2.bad,uM)) else some (.inr (uA.2.2,uC.1,uC.2.1)):Option (((List ep) × Bool × (List eu)) ⊕ ((List eu) × (List ep) × Bool)))) (ws,false,acc)=some (ks,ws',true)
def px (lv:Int) (ws:List ep):Prop:=(∃ e r,Rd (.E lv ws e r))∨an0 lv ws
theorem al1:an0 5 []:=⟨λlist n _ _ ha=>⟨_,by rw [nq];exact ai2 ha⟩,⟨_,_,by rw [nX];exact aa3⟩⟩
theorem bn3 {lv:Int} (hlv:lv=1∨lv=2∨lv=3∨lv=4):∀ (k:Nat) (ws:List ep),ws.length≤k→vW ws→ws.length≤1000→(∀ ws',ws'.length<ws.length→vW ws'→px (lv+1) ws')→∀ x,(∃ e r,Rd (.L lv x ws e r))∨bl0 lv x ws:=by
 intro k
 induction k with
 | zero =>
  intro ws hk hv hl ht x
  have:ws=[]:=List.eq_nil_of_length_eq_zero (by omega)
  subst this
  exact .inl ⟨_,_,.stop rfl⟩
 | succ k ih =>
  intro ws hk hv hl ht x
  cases ws with
  | nil=>exact .inl ⟨_,_,.stop rfl⟩
  | cons w ws =>
   simp at hk hl
   by_cases ho:opW lv w=0
   ·exact .inl ⟨_,_,.stop ho⟩
   rcases ht ws (by simp) (kD hv) with ⟨f,r,h1⟩ | ⟨f1,f2⟩
   ·obtain ⟨s1,s2⟩:=og h1
    have hvr:vW r:=λy hy=>kD hv y (s2 y hy)
    rcases ih r (by omega) hvr (by omega) (λws' h=>ht ws' (by simp;omega)) ⟨opW lv w,0,mkS [],[x,f]⟩ with ⟨e,r',h2⟩ | ⟨f1,f2⟩
    ·exact .inl ⟨_,_,.step ho h1 h2⟩
    ·refine .inr ⟨λlist n hlen hvl ha=>?_,?_⟩
     ·obtain ⟨_,_,h3⟩:=jG ha
      obtain ⟨m,g1,g2,g3⟩:=rA hlen hvl h1 (n+1) h3
      obtain ⟨op,n_,nm,ks,h4⟩:=f1 list m hlen hvl g1
      exact ⟨op,n_,nm,ks,by rw [wG hlen ha hlv ho g3,rZ];exact h4⟩
     ·obtain ⟨op,n_,nm,ks,ws',h4⟩:=f2
      exact ⟨op,n_,nm,ks,ws',by rw [wm hlv hv ho (oz h1 (kD hv) (by omega)),rZ];exact h4⟩
   ·refine .inr ⟨λlist n hlen hvl ha=>?_,?_⟩
    ·obtain ⟨_,_,h3⟩:=jG ha
     obtain ⟨e,h4⟩:=f1 list (n+1) hlen hvl h3
     exact ⟨_,_,_,_,by rw [wG hlen ha hlv ho h4];exact ae5⟩
    ·obtain ⟨e,ws',h4⟩:=f2
     exact ⟨_,_,_,_,ws',by rw [wm hlv hv ho h4];exact x7⟩
theorem qd {lv:Int} (hlv:lv=1∨lv=2∨lv=3∨lv=4) {ws:List ep} (hv:vW ws) (hl:ws.length≤1000) (ht:∀ ws',ws'.length≤ws.length→vW ws'→px (lv+1) ws'):px lv ws:=by
 rcases ht ws (Nat.le_refl _) hv with ⟨x,r,h1⟩ | ⟨f1,f2⟩
 ·obtain ⟨s1,s2⟩:=og h1
  rcases bn3 hlv r.length r (Nat.le_refl _) (λy hy=>hv y (s2 y hy)) (by omega) (λws' h=>ht ws' (by omega)) x with ⟨e,r',h2⟩ | ⟨f1,f2⟩
  ·exact .inl ⟨_,_,.up hlv h1 h2⟩
  ·refine .inr ⟨λlist n hlen hvl ha=>?_,?_⟩
   ·obtain ⟨m,g1,g2,g3⟩:=rA hlen hvl h1 n ha
    obtain ⟨op,n_,nm,ks,h4⟩:=f1 list m hlen hvl g1
    exact ⟨_,by rw [xz hlv,g3,obS,h4];rfl⟩
   ·obtain ⟨op,n_,nm,ks,ws',h4⟩:=f2
    exact ⟨_,ws',vn hlv (oz h1 hv hl) h4⟩
 ·refine .inr ⟨λlist n hlen hvl ha=>?_,?_⟩
  ·obtain ⟨e,h4⟩:=f1 list n hlen hvl ha
   exact ⟨_,by rw [xz hlv,h4,obS,ae5];rfl⟩
  ·obtain ⟨e,ws',h4⟩:=f2
   exact ⟨_,ws',vn hlv h4 x7⟩
theorem bm8:∀ (k:Nat) (ws:List ep),ws.length≤k→vW ws→∀ acc,acc≠[]→acc.length+ws.length≤1000→(∀ ws',ws'.length<ws.length→vW ws'→px 1 ws')→(∃ ks r,Rd (.M acc ws ks r))∨bl7 acc ws:=by
 intro k
 induction k with
 | zero =>
  intro ws hk hv acc h0 hl ht
  have:ws=[]:=List.eq_nil_of_length_eq_zero (by omega)
  subst this
  refine .inr ⟨λlist n hlen hvl ha q acc0 e he hle hr=>?_,zI h0 (by simp at hl;omega) hv rfl rfl⟩
  have hle2:=hle
  rw [he] at hle2
  simp at hle2
  have:=ha.2
  exact ⟨_,by rw [sn hlen (by omega) ha hr];rfl⟩
 | succ k ih =>
  intro ws hk hv acc h0 hl ht
  by_cases c1:isT ws (mkS [41])=true
  ·cases ws with
   | nil=>cases c1
   | cons v ws=>exact .inl ⟨_,_,.last (by simpa [isT] using c1)⟩
  have c1:isT ws (mkS [41])=false:=by simpa using c1
  by_cases c2:isT ws (mkS [44])=true
  ·cases ws with
   | nil=>cases c2
   | cons v ws =>
    have hv2:v.text=mkS [44]:=by simpa [isT] using c2
    simp at hk hl
    rcases ht ws (by simp) (kD hv) with ⟨f,r,h1⟩ | ⟨f1,f2⟩
    ·obtain ⟨s1,s2⟩:=og h1
     have hvr:vW r:=λy hy=>kD hv y (s2 y hy)
     rcases ih r (by omega) hvr (acc++[f]) (by simp) (by simp;omega) (λws' h=>ht ws' (by simp;omega)) with ⟨ks,r',h2⟩ | ⟨f1,f2⟩
     ·exact .inl ⟨_,_,.more hv2 h1 h2⟩
     ·refine .inr ⟨λlist n hlen hvl ha q acc0 e he hle hr=>?_,?_⟩
      ·obtain ⟨h5,_,h3⟩:=jG ha
       obtain ⟨m,g1,g2,g3⟩:=rA hlen hvl h1 (n+1) h3
       have hle2:=hle
       rw [he] at hle2
       simp at hle2
       obtain ⟨ks,h4⟩:=f1 list m hlen hvl g1 _ acc f rfl (by simp;omega) g3
       exact ⟨ks,by rw [sn hlen (by omega) ha hr,c1,c2,← he];exact h4⟩
      ·obtain ⟨ks,ws',h4⟩:=f2
       exact ⟨ks,ws',by rw [vu h0 (by omega) hv hv2 (oz h1 (kD hv) (by omega))];exact h4⟩
    ·refine .inr ⟨λlist n hlen hvl ha q acc0 e he hle hr=>?_,?_⟩
     ·obtain ⟨h5,_,h3⟩:=jG ha
      obtain ⟨e2,h4⟩:=f1 list (n+1) hlen hvl h3
      have hle2:=hle
      rw [he] at hle2
      simp at hle2
      exact ⟨_,by rw [sn hlen (by omega) ha hr,c1,c2,← he];exact ab2 (by omega) h4⟩
     ·obtain ⟨e2,ws',h4⟩:=f2
      exact ⟨_,ws',by rw [vu h0 (by omega) hv hv2 h4];exact yD⟩
  have c2:isT ws (mkS [44])=false:=by simpa using c2
  refine .inr ⟨λlist n hlen hvl ha q acc0 e he hle hr=>?_,zI h0 (by omega) hv c1 c2⟩
  have hle2:=hle
  rw [he] at hle2
  simp at hle2
  have:=ha.2
  exact ⟨_,by rw [sn hlen (by omega) ha hr,c1,c2];rfl⟩
theorem bk9 {ws:List ep} (hv:vW ws) (hl:ws.length≤1000) (ht:∀ ws',ws'.length≤ws.length→vW ws'→px 1 ws'):(∃ ks r,Rd (.A ws ks r))∨bj9 ws:=by
 by_cases c1:isT ws (mkS [41])=true
 ·cases ws with
  | nil=>cases c1
  | cons v ws=>exact .inl ⟨_,_,.done (by simpa [isT] using c1)⟩
 have c1:isT ws (mkS [41])=false:=by simpa using c1
 rcases ht ws (Nat.le_refl _) hv with ⟨x,r,h1⟩ | ⟨f1,f2⟩
 ·obtain ⟨s1,s2⟩:=og h1
  rcases bm8 r.length r (Nat.le_refl _) (λy hy=>hv y (s2 y hy)) [x] (by simp) (by simp;omega) (λws' h=>ht ws' (by omega)) with ⟨ks,r',h2⟩ | ⟨f1,f2⟩
  ·exact .inl ⟨_,_,.first c1 h1 h2⟩
  ·refine .inr ⟨λlist n hlen hvl ha=>?_,?_⟩
   ·obtain ⟨m,g1,g2,g3⟩:=rA hlen hvl h1 n ha
    obtain ⟨ks,h4⟩:=f1 list m hlen hvl g1 _ [] x rfl (by simp;omega) g3
    exact ⟨ks,by rw [vg hlen ha,c1];exact h4⟩
   ·obtain ⟨ks,ws',h4⟩:=f2
    exact ⟨ks,ws',by rw [tD hv c1 (oz h1 hv hl)];exact h4⟩
 ·refine .inr ⟨λlist n hlen hvl ha=>?_,?_⟩
  ·obtain ⟨e,h4⟩:=f1 list n hlen hvl ha
   exact ⟨_,by rw [vg hlen ha,c1];exact ab2 (by simp) h4⟩
  ·obtain ⟨e,ws',h4⟩:=f2
   exact ⟨_,ws',by rw [tD hv c1 h4];exact yD⟩
theorem bb7 {ws:List ep} (hv:vW ws) (hl:ws.length≤1000) (h5:∀ ws',ws'.length<ws.length→vW ws'→px 5 ws') (h1:∀ ws',ws'.length<ws.length→vW ws'→px 1 ws'):px 5 ws:=by
 cases ws with
 | nil=>exact .inr al1
 | cons w ws =>
  have h0:=ly hv
  have hvt:=kD hv
  simp at hl
  by_cases c1:w.text=mkS [33]
  ·rcases h5 ws (by simp) hvt with ⟨e, r, h⟩ | ⟨f1, f2⟩
   ·exact .inl ⟨_,_,.neg c1 h⟩
   ·refine .inr ⟨λlist n hlen hvl ha=>?_,?_⟩
    ·obtain ⟨e,g⟩:=f1 list (n+1) hlen hvl (jG ha).2.2
     rw [nq] at g
     exact ⟨_,by rw [nq,kQ hlen ha,if_pos c1,g];rfl⟩
    ·obtain ⟨e,ws',g⟩:=f2
     rw [nX] at g
     exact ⟨_,ws',by rw [nX,jt hv,if_pos c1,g];rfl⟩
  by_cases c2:w.text=mkS [64]
  ·rcases h5 ws (by simp) hvt with ⟨e, r, h⟩ | ⟨f1, f2⟩
   ·exact .inl ⟨_,_,.at_ c2 h⟩
   ·refine .inr ⟨λlist n hlen hvl ha=>?_,?_⟩
    ·obtain ⟨e,g⟩:=f1 list (n+1) hlen hvl (jG ha).2.2
     rw [nq] at g
     exact ⟨_,by rw [nq,kQ hlen ha,if_neg c1,if_pos c2,g];rfl⟩
    ·obtain ⟨e,ws',g⟩:=f2
     rw [nX] at g
     exact ⟨_,ws',by rw [nX,jt hv,if_neg c1,if_pos c2,g];rfl⟩
  by_cases c3:w.text=mkS [40]
  ·rcases h1 ws (by simp) hvt with ⟨e, r, h⟩ | ⟨f1, f2⟩
   ·obtain ⟨s1,s2⟩:=og h
    by_cases c4:isT r (mkS [41])=true
    ·cases r with
     | nil=>cases c4
     | cons v r=>exact .inl ⟨_,_,.par c3 h (by simpa [isT] using c4)⟩
    have c4:isT r (mkS [41])=false:=by simpa using c4
    refine .inr ⟨λlist n hlen hvl ha=>?_,?_⟩
    ·obtain ⟨m,g1,g2,g3⟩:=rA hlen hvl h (n+1) (jG ha).2.2
     have e1:decide ((m:Int)<0)=false:=by simp
     refine ⟨e,?_⟩
     rw [nq,kQ hlen ha,if_neg c1,if_neg c2,if_pos c3,g3,obS]
     dsimp only
     rw [e1,tm g1,c4];rfl
    ·refine ⟨e,r,?_⟩
     rw [nX,jt hv,if_neg c1,if_neg c2,if_pos c3,oz h hvt (by omega),obS]
     dsimp only
     rw [pz,qH (λx hx=>hvt x (s2 x hx)) rfl (by decide),c4];rfl
   ·refine .inr ⟨λlist n hlen hvl ha=>?_,?_⟩
    ·obtain ⟨e,g⟩:=f1 list (n+1) hlen hvl (jG ha).2.2
     exact ⟨e,by rw [nq,kQ hlen ha,if_neg c1,if_neg c2,if_pos c3,g];rfl⟩
    ·obtain ⟨e,ws',g⟩:=f2
     refine ⟨e,if tkW ws' 3 (mkS [41]) then ws'.tail else ws',?_⟩
     rw [nX,jt hv,if_neg c1,if_neg c2,if_pos c3,g,obS]
     dsimp only
     rw [pz]
     cases tkW ws' 3 (mkS [41])<;>rfl
  by_cases c4:w.kind=2
  ·exact .inl ⟨_,_,.num c4⟩
  by_cases c5:w.kind=1
  ·cases c6:isT ws (mkS [40]) with
   | false=>exact .inl ⟨_,_,.var c5 c6⟩
   | true =>
    cases ws with
    | nil=>cases c6
    | cons v ws =>
     have c7:v.text=mkS [40]:=by simpa [isT] using c6
     simp at hl
     rcases bk9 (kD hvt) (by omega) (λws' h=>h1 ws' (by simp;omega)) with ⟨ks,r,h⟩ | ⟨f1,f2⟩
     ·exact .inl ⟨_,_,.call c5 c7 h⟩
     ·refine .inr ⟨λlist n hlen hvl ha=>?_,?_⟩
      ·obtain ⟨ks,g⟩:=f1 list (n+2) hlen hvl (jG (jG ha).2.2).2.2
       exact ⟨_,by rw [nq,kQ hlen ha,if_neg c1,if_neg c2,if_neg c3,if_neg c4,if_neg (by omega),if_neg (by rw [c6];decide),g];rfl⟩
      ·obtain ⟨ks,ws',g⟩:=f2
       exact ⟨_,ws',by rw [nX,jt hv,if_neg c1,if_neg c2,if_neg c3,if_neg c4,if_neg (by omega),if_neg (by rw [c6];decide),List.tail_cons,g];rfl⟩
  ·refine .inr ⟨λlist n hlen hvl ha=>⟨_,by rw [nq,kQ hlen ha,if_neg c1,if_neg c2,if_neg c3,if_neg c4,if_pos c5]⟩,⟨_,ws,by rw [nX,jt hv,if_neg c1,if_neg c2,if_neg c3,if_neg c4,if_pos c5]⟩⟩
theorem av3:∀ (k:Nat) (ws:List ep),ws.length≤k→ws.length≤1000→vW ws→∀ lv:Int,(lv=1∨lv=2∨lv=3∨lv=4∨lv=5)→px lv ws:=by
 intro k
 induction k with
 | zero =>
  intro ws hk hl hv
  have h5:∀ ws':List ep,ws'.length≤ws.length→vW ws'→px 5 ws':=λws' h hv'=>bb7 hv' (by omega) (λ_ h=>by omega) (λ_ h=>by omega)
  have h4:∀ ws':List ep,ws'.length≤ws.length→vW ws'→px 4 ws':=λws' h hv'=>qd (by omega) hv' (by omega) λx hx=>h5 x (by omega)
  have h3:∀ ws':List ep,ws'.length≤ws.length→vW ws'→px 3 ws':=λws' h hv'=>qd (by omega) hv' (by omega) λx hx=>h4 x (by omega)
  have h2:∀ ws':List ep,ws'.length≤ws.length→vW ws'→px 2 ws':=λws' h hv'=>qd (by omega) hv' (by omega) λx hx=>h3 x (by omega)
  have h1:∀ ws':List ep,ws'.length≤ws.length→vW ws'→px 1 ws':=λws' h hv'=>qd (by omega) hv' (by omega) λx hx=>h2 x (by omega)
  rintro lv (rfl | rfl | rfl | rfl | rfl)
  ·exact h1 ws (Nat.le_refl _) hv
  ·exact h2 ws (Nat.le_refl _) hv
  ·exact h3 ws (Nat.le_refl _) hv
  ·exact h4 ws (Nat.le_refl _) hv
  ·exact h5 ws (Nat.le_refl _) hv
 | succ k ih =>
  intro ws hk hl hv
  have h5:∀ ws':List ep,ws'.length≤ws.length→vW ws'→px 5 ws':=λws' h hv'=>bb7 hv' (by omega) (λx hx hvx=>ih x (by omega) (by omega) hvx 5 (by omega)) (λx hx hvx=>ih x (by omega) (by omega) hvx 1 (by omega))
  have h4:∀ ws':List ep,ws'.length≤ws.length→vW ws'→px 4 ws':=λws' h hv'=>qd (by omega) hv' (by omega) λx hx=>h5 x (by omega)
  have h3:∀ ws':List ep,ws'.length≤ws.length→vW ws'→px 3 ws':=λws' h hv'=>qd (by omega) hv' (by omega) λx hx=>h4 x (by omega)
  have h2:∀ ws':List ep,ws'.length≤ws.length→vW ws'→px 2 ws':=λws' h hv'=>qd (by omega) hv' (by omega) λx hx=>h3 x (by omega)
  have h1:∀ ws':List ep,ws'.length≤ws.length→vW ws'→px 1 ws':=λws' h hv'=>qd (by omega) hv' (by omega) λx hx=>h2 x (by omega)
  rintro lv (rfl | rfl | rfl | rfl | rfl)
  ·exact h1 ws (Nat.le_refl _) hv
  ·exact h2 ws (Nat.le_refl _) hv
  ·exact h3 ws (Nat.le_refl _) hv
  ·exact h4 ws (Nat.le_refl _) hv
  ·exact h5 ws (Nat.le_refl _) hv
end Prg
end Go.Wk
namespace Go.Wk
open Go
namespace Prg
set_option maxRecDepth 10000
theorem ai9:∀ (k:Nat) (l:List UInt8),l.length≤k→∀ ws,tok l=some ws→vW ws:=by
 intro k
 induction k with
 | zero =>
  intro l hl ws h
  have:l=[]:=List.eq_nil_of_length_eq_zero (by omega)
  subst this
  rw [qA] at h
  cases h
  exact λw hw=>by cases hw
 | succ k ih =>
  intro l hl ws h
  cases l with
  | nil =>
   rw [qA] at h
   cases h
   exact λw hw=>by cases hw
  | cons c r =>
   rw [p4] at h
   simp at hl
   by_cases h1:tM c=true
   ·rw [if_pos h1] at h
    exact ih r hl ws h
   rw [if_neg h1] at h
   by_cases h2:k9 (qD c (r.takeWhile (j9 c)))=true
   ·rw [if_pos h2] at h
    obtain ⟨ws',h3,h4⟩:=Option.map_eq_some_iff.1 h
    have:=ih _ (Nat.le_trans (sG _ _) hl) ws' h3
    subst h4
    intro w hw
    rcases List.mem_cons.1 hw with rfl | hw
    ·exact h2
    ·exact this w hw
   ·rw [if_neg h2] at h;cases h
theorem wQ {s:Str} {ws:List ep} (h:r9 s=some ws):vW ws∧ws.length≤600:=by
 unfold r9 at h
 split at h
 ·rw [Option.filter_eq_some_iff,decide_eq_true_iff] at h
  exact ⟨ai9 _ _ (Nat.le_refl _) _ h.1,h.2⟩
 ·cases h
def noE:eu:=⟨0,0,mkS [],[]⟩
theorem au4 (ws:List ep):AtW ws 0 ws:=⟨rfl,Nat.zero_le _⟩
theorem oU {s:Str} {ws:List ep} (h:r9 s=some ws):yp s=(ws,true):=by unfold yp;rw [h]
theorem xT {s:Str} (h:r9 s=none):yp s=([],false):=by unfold yp;rw [h]
end Prg
end Go.Wk
namespace Go.Wk
open Go
namespace Prg
set_option maxRecDepth 10000
end Prg
end Go.Wk
namespace Go.Wk
open Go
namespace Prg
set_option maxRecDepth 10000
def tW (n:Int):Str:=(xK n).getD (mkS [])
theorem ab7 (n:Nat):mV (48+((n % 10:Nat):Int))=UInt8.ofNat (48+n % 10):=by
 unfold mV
 congr 1
 omega
theorem yz:∀ n:Nat,n<1000→(Lib.decDigits n).length≤3:=by
 intro n h
 rw [Lib.decDigits]
 split
 ·simp
 ·rw [Lib.decDigits]
  split
  ·simp
  ·rw [Lib.decDigits]
   split
   ·simp
   ·omega
theorem ux {n:Nat} (h:n<1000):strconv_Itoa (n:Int)=some (tW n)∧(tW n).b=Lib.decDigits n:=by
 have hl:=yz n h
 have hi:Lib.itoa (n:Int)=Lib.decDigits n:=by unfold Lib.itoa;rw [if_neg (by omega)];simp
 have:xK (n:Int)=some ⟨Lib.decDigits n,by omega⟩:=by
  unfold xK
  have h1:(Lib.itoa (n:Int)).length≤140737488355328:=by rw [hi];omega
  rw [dif_pos h1,if_pos ⟨by omega,by omega⟩]
  simp only [hi]
 constructor
 ·unfold strconv_Itoa tW;rw [this];rfl
 ·unfold tW;rw [this];rfl
theorem as5:∀ (n:Nat) (s:Str),n≤100000→s.b.length+n≤200000→∃ (m:Nat) (t:Str),fy (λ(uA:Int × Str)=>(if decide (9<uA.1) then (iB (uf ([(mV (w64 (48+(uA.1.tmod 10))))]:List UInt8)) uA.2).bind λuB=>some (.inl (w64 (uA.1.tdiv 10),uB)) else some (.inr (uA.1,uA.2)):Option ((Int × Str) ⊕ (Int × Str)))) ((n:Int),s)=some ((m:Int),t)∧m≤9∧UInt8.ofNat (48+m)::t.b=Lib.decDigits n++s.b∧t.b.length≤s.b.length+n:=by
 intro n
 induction n using Nat.strongRecOn with
 | ind n ih =>
  intro s hn hs
  by_cases h0:n≤9
  ·refine ⟨n, s, fx ?_, h0, ?_, by omega⟩
   ·have e1 : decide (9 < (n : Int)) = false := by simp; omega
    dsimp only
    rw [e1];rfl
   ·rw [Lib.decDigits,dif_pos (by omega)];rfl
  ·have e1 : decide (9 < (n : Int)) = true := by simp; omega
   have e2:w64 ((n:Int).tdiv 10)=((n / 10:Nat):Int):=by
    have:(n:Int).tdiv 10=((n / 10:Nat):Int):=by rw [Int.tdiv_eq_ediv_of_nonneg (by omega)];omega
    rw [this,gu (by omega) (by omega)]
   have e3:w64 (48+(n:Int).tmod 10)=48+((n % 10:Nat):Int):=by
    have:(n:Int).tmod 10=((n % 10:Nat):Int):=by rw [Int.tmod_eq_emod_of_nonneg (by omega)];omega
    rw [this,gu (by omega) (by omega)]
   have hc:(uf [mV (48+((n % 10:Nat):Int))]).b=[UInt8.ofNat (48+n % 10)]:=by rw [aa2 (by simp),ab7]
   generalize hg:uf [mV (48+((n % 10:Nat):Int))]=c at hc
   have hc1:c.b.length=1:=by rw [hc];rfl
   obtain ⟨t,ht,ht2⟩:∃ t,iB c s=some t∧t.b=c.b++s.b:=by
    refine ⟨⟨c.b++s.b,by simp;omega⟩,fW.2 ⟨by omega,rfl⟩,rfl⟩
   have ht3:t.b.length=s.b.length+1:=by rw [ht2];simp;omega
   obtain ⟨m,u,h1,h2,h3,h4⟩:=ih (n / 10) (by omega) t (by omega) (by omega)
   refine ⟨m,u,?_,h2,?_,by omega⟩
   ·rw [iu (s':=(((n / 10:Nat):Int),t))]
    ·exact h1
    ·dsimp only
     rw [if_pos e1,e3,hg,ht,obS,e2]
   ·rw [h3,ht2,hc]
    conv=>rhs;rw [Lib.decDigits,dif_neg (by omega)]
    simp
theorem xP {n:Nat} (h:n<1000):lU (n:Int)=some (tW n):=by
 rw [lU]
 have e1:decide ((n:Int) < -9223372036854775807)=false:=decide_eq_false (by omega)
 have e2:decide ((n:Int)<0)=false:=by simp
 rw [e1,e2]
 simp only [Bool.false_eq_true,if_false]
 obtain ⟨m,t,h1,h2,h3,h4⟩:=as5 n (mkS []) (by omega) (by show 0+n≤_;omega)
 rw [h1]
 simp only [obS]
 have e3:w64 (48+(m:Int))=48+((m % 10:Nat):Int):=by rw [gu (by omega) (by omega)];omega
 have e4:m % 10=m:=by omega
 have hc:(uf [mV (w64 (48+(m:Int)))]).b=[UInt8.ofNat (48+m)]:=by rw [aa2 (by simp),e3,ab7,e4]
 have h5:t.b.length≤n:=by simpa [mkS] using h4
 have:iB (uf [mV (w64 (48+(m:Int)))]) t=some (tW n):=by
  refine fW.2 ⟨by rw [hc];simp;omega,?_⟩
  rw [(ux h).2,hc]
  exact ((List.append_nil _).symm.trans h3.symm)
 rw [this];rfl
theorem yf:∀ n:Nat,(Lib.decDigits n).all jf=true:=by
 intro n
 induction n using Nat.strongRecOn with
 | ind n ih =>
  have hd:∀ k:Nat,k<10→jf (UInt8.ofNat (48+k))=true:=by
   intro k hk
   rw [nh]
   have:(UInt8.ofNat (48+k)).toNat=48+k:=by rw [UInt8.toNat_ofNat'];omega
   omega
  rw [Lib.decDigits]
  split
  ·rw [List.all_cons,hd n (by omega)];rfl
  ·rw [List.all_append,ih (n / 10) (by omega),List.all_cons,hd (n % 10) (by omega)];rfl
theorem yd:∀ n:Nat,vD 0 (Lib.decDigits n)=n:=by
 intro n
 induction n using Nat.strongRecOn with
 | ind n ih =>
  have hd:∀ k:Nat,k<10→(UInt8.ofNat (48+k)).toNat - 48=k:=by
   intro k hk
   have:(UInt8.ofNat (48+k)).toNat=48+k:=by rw [UInt8.toNat_ofNat'];omega
   omega
  rw [Lib.decDigits]
  split
  ·show 0 * 10 + ((UInt8.ofNat (48 + n)).toNat - 48) = n
   rw [hd n (by omega)];omega
  ·rw [ag1,ih (n / 10) (by omega),hd (n % 10) (by omega)];omega
theorem ag8:∀ n:Nat,0<n→(Lib.decDigits n)[0]?≠some 48:=by
 intro n
 induction n using Nat.strongRecOn with
 | ind n ih =>
  intro h0
  rw [Lib.decDigits]
  split
  ·intro h
   have this:=congrArg UInt8.toNat (Option.some.inj h)
   rw [UInt8.toNat_ofNat'] at this
   have h48:(48:UInt8).toNat=48:=rfl
   omega
  ·have h1 := ih (n / 10) (by omega) (by omega)
   cases hd:Lib.decDigits (n / 10) with
   | nil =>
    rw [Lib.decDigits] at hd
    split at hd<;>simp at hd
   | cons a l=>rw [hd] at h1;simpa using h1
theorem aw3 (n:Nat):Lib.decDigits n≠[]:=by
 rw [Lib.decDigits];split<;>simp
theorem xM {n:Nat} (h:n≤255):mS (tW n)=n:=by
 have hz:qM (Lib.decDigits n)=false:=by
  unfold qM
  by_cases h0:n=0
  ·subst h0
   have:Lib.decDigits 0=[48]:=by rw [Lib.decDigits];rfl
   rw [this];rfl
  ·have := ag8 n (by omega)
   simp [this]
 unfold mS
 rw [(ux (by omega)).2,if_pos ⟨aw3 n,yf n,hz,by rw [yd];exact h⟩,yd]
def txt (ws:List ep):List UInt8:=Lib.join (ws.map (λw=>w.text.b)) [32]
theorem af2:txt []=[]:=rfl
theorem kj (w:ep):txt [w]=w.text.b:=Lib.join_one _ _
theorem im {w:ep} {ws:List ep} (h:ws≠[]):txt (w::ws)=w.text.b++32::txt ws:=by
 obtain ⟨v,r,rfl⟩:∃ v r,ws=v::r:=by cases ws with | nil=>exact absurd rfl h | cons v r=>exact ⟨v,r,rfl⟩
 unfold txt
 rw [List.map_cons,List.map_cons,Lib.join_cons,Lib.join_cons]
 simp [Lib.joinTail]
theorem jy:∀ {a b:List ep},a≠[]→b≠[]→txt (a++b)=txt a++32::txt b
 | [],_,h,_=>absurd rfl h
 | [w],b,_,hb=>by rw [List.cons_append,List.nil_append,im hb,kj]
 | w::v::r,b,_,hb=>by
  rw [List.cons_append,im (by simp),jy (a:=v::r) (by simp) hb,im (w:=w) (ws:=v::r) (by simp)]
  simp
theorem qy {p:UInt8→Bool}:∀ {l:List UInt8},l.all p=true→l.takeWhile p=l
 | [],_=>rfl
 | a::l,h=>by
  rw [List.all_cons,Bool.and_eq_true] at h
  rw [List.takeWhile_cons,if_pos h.1,qy h.2]
theorem xV {p:UInt8→Bool} {b:UInt8} (hb:p b=false):∀ {l r:List UInt8},l.takeWhile p=l→(l++b::r).takeWhile p=l∧(l++b::r).dropWhile p=b::r
 | [],r,_=>by
  rw [List.nil_append,List.takeWhile_cons,List.dropWhile_cons,hb]
  exact ⟨rfl,rfl⟩
 | a::l,r,h=>by
  rw [List.takeWhile_cons] at h
  split at h
  ·rename_i ha
   have:=xV hb (l:=l) (r:=r) (by simpa using h)
   rw [List.cons_append,List.takeWhile_cons,List.dropWhile_cons,if_pos ha,if_pos ha,this.1,this.2]
   exact ⟨rfl,rfl⟩
  ·cases h
theorem xU {p:UInt8→Bool}:∀ {l:List UInt8},l.takeWhile p=l→l.dropWhile p=[]
 | [],_=>rfl
 | a::l,h=>by
  rw [List.takeWhile_cons] at h
  split at h
  ·rename_i ha
   rw [List.dropWhile_cons,if_pos ha,xU (by simpa using h)]
  ·cases h
theorem av6 {s:Str} (h:o9 s=true):s.b≠[]∧s.b.all kC=true∧s.b.length≤4:=by
 have hm:s∈fO:=of_decide_eq_true h
 have key:∀ k∈fO,k.b≠[]∧k.b.all kC=true∧k.b.length≤4:=by
  intro k hk
  unfold fO at hk
  simp only [List.mem_cons,List.not_mem_nil,or_false] at hk
  rcases hk with rfl | rfl | rfl | rfl | rfl | rfl | rfl | rfl | rfl<;>exact ⟨by decide,by decide,by decide⟩
 exact key s hm
theorem vZ {c:UInt8} (h:kC c=true∨jf c=true∨c∈nI):tM c=false:=by
 have key:kC 32=false∧jf 32=false∧(32:UInt8) ∉ nI∧kC 10=false∧jf 10=false∧(10:UInt8) ∉ nI:=by decide
 obtain ⟨k1,k2,k3,k4,k5,k6⟩:=key
 unfold tM
 rw [decide_eq_false_iff_not]
 rintro (rfl | rfl)
 ·rcases h with h | h | h
  ·rw [k1] at h;cases h
  ·rw [k2] at h;cases h
  ·exact k3 h
 ·rcases h with h | h | h
  ·rw [k4] at h;cases h
  ·rw [k5] at h;cases h
  ·exact k6 h
theorem rh {w:ep} (h:k9 w=true):∃ c l,w.text.b=c::l∧tM c=false∧l.takeWhile (j9 c)=l∧qD c l=w∧w.text.b.length≤4:=by
 obtain ⟨kind,s⟩:=w
 have hb:∀ {c l},s.b=c::l→qD c l=⟨p6 c s,s⟩:=λ{c l} e=>by unfold qD;rw [← e,bh4]
 unfold k9 at h
 dsimp only at h ⊢
 by_cases h1:kind=1
 ·rw [if_pos h1] at h
  unfold iL at h
  simp only [Bool.and_eq_true,decide_eq_true_iff,Bool.not_eq_true'] at h
  obtain ⟨⟨⟨g1,g2⟩,g3⟩,g4⟩:=h
  obtain ⟨c,l,hc⟩:∃ c l,s.b=c::l:=by cases hs:s.b with | nil=>exact absurd hs g1 | cons c l=>exact ⟨c,l,rfl⟩
  rw [hc,List.all_cons,Bool.and_eq_true] at g2
  refine ⟨c,l,hc,vZ (.inl g2.1),qy ?_,?_,g3⟩
  ·have : j9 c = kC := by funext x; unfold j9; rw [g2.1]; rfl
   rw [this];exact g2.2
  ·rw [hb hc,h1]
   unfold p6
   rw [g4,g2.1];rfl
 rw [if_neg h1] at h
 by_cases h2:kind=2
 ·rw [if_pos h2,decide_eq_true_iff] at h
  have hI:s.b≠[]∧s.b.all jf=true∧qM s.b=false∧vD 0 s.b≤255:=by
   unfold mS at h
   split at h
   ·rename_i h';exact h'
   ·omega
  obtain ⟨g1,g2,g3,g4⟩:=hI
  have hlen:s.b.length≤4:=by
   rcases Nat.lt_or_ge s.b.length 4 with h' | h'
   ·omega
   ·have:=vo g3 g2 h';omega
  obtain ⟨c,l,hc⟩:∃ c l,s.b=c::l:=by cases hs:s.b with | nil=>exact absurd hs g1 | cons c l=>exact ⟨c,l,rfl⟩
  rw [hc,List.all_cons,Bool.and_eq_true] at g2
  have hlet:kC c=false:=by
   cases hl:kC c with
   | false=>rfl
   | true=>rw [vj hl] at g2;cases g2.1
  have hk:o9 s=false:=by
   cases hk:o9 s with
   | false=>rfl
   | true=>rw [rv hc hk] at hlet;cases hlet
  refine ⟨c,l,hc,vZ (.inr (.inl g2.1)),qy ?_,?_,hlen⟩
  ·have : j9 c = jf := by funext x; unfold j9; rw [hlet, g2.1]; rfl
   rw [this];exact g2.2
  ·rw [hb hc,h2]
   unfold p6
   rw [hk,hlet,g2.1];rfl
 rw [if_neg h2] at h
 by_cases h3:kind=3
 ·rw [if_pos h3] at h
  match hs:s.b,h with
  | [c],h =>
   have hcm:c∈nI:=of_decide_eq_true h
   have hcl:kC c=false∧jf c=false:=by
    have key:∀ c∈nI,kC c=false∧jf c=false:=by decide
    exact key c hcm
   have hk:o9 s=false:=by
    cases hk:o9 s with
    | false=>rfl
    | true=>have:=rv hs hk;rw [hcl.1] at this;cases this
   refine ⟨c,[],rfl,vZ (.inr (.inr hcm)),rfl,?_,by simp⟩
   rw [hb hs,h3]
   unfold p6
   rw [hk,hcl.1,hcl.2];rfl
 rw [if_neg h3] at h
 by_cases h4:kind=4
 ·rw [if_pos h4] at h
  obtain ⟨g1,g2,g3⟩:=av6 h
  obtain ⟨c,l,hc⟩:∃ c l,s.b=c::l:=by cases hs:s.b with | nil=>exact absurd hs g1 | cons c l=>exact ⟨c,l,rfl⟩
  rw [hc,List.all_cons,Bool.and_eq_true] at g2
  refine ⟨c,l,hc,vZ (.inl g2.1),qy ?_,?_,g3⟩
  ·have : j9 c = kC := by funext x; unfold j9; rw [g2.1]; rfl
   rw [this];exact g2.2
  ·rw [hb hc,h4]
   unfold p6
   rw [h];rfl
 ·rw [if_neg h4] at h;cases h
theorem av4 (c:UInt8):j9 c 32=false:=by
 have:kC 32=false∧jf 32=false:=by decide
 unfold j9
 rw [this.1,this.2]
 cases kC c<;>cases jf c<;>rfl
theorem ae1:∀ (ws:List ep),vW ws→tok (txt ws)=some ws
 | [],_=>by rw [af2,qA]
 | [w],h=>by
  have hw:=ly h
  obtain ⟨c,l,h1,h2,h3,h4,_⟩:=rh hw
  rw [kj,h1,p4,h2,if_neg (by decide),h3,h4,if_pos hw,xU h3,qA];rfl
 | w::v::r,h=>by
  have hw:=ly h
  obtain ⟨c,l,h1,h2,h3,h4,_⟩:=rh hw
  have h5:=xV (av4 c) (r:=txt (v::r)) h3
  rw [im (by simp),h1,List.cons_append,p4,h2,if_neg (by decide),h5.1,h5.2,h4,if_pos hw,p4 32,if_pos (by decide),ae1 (v::r) (kD h)];rfl
theorem pD:∀ (ws:List ep),vW ws→(txt ws).length≤5*ws.length
 | [],_=>by rw [af2];simp
 | [w],h=>by
  obtain ⟨c,l,h1,h2,h3,h4,h5⟩:=rh (ly h)
  rw [kj];simp;omega
 | w::v::r,h=>by
  obtain ⟨c,l,h1,h2,h3,h4,h5⟩:=rh (ly h)
  have:=pD (v::r) (kD h)
  rw [im (by simp)]
  simp at this ⊢
  omega
end Prg
end Go.Wk
namespace Go.Wk
open Go
namespace Prg
set_option maxRecDepth 10000
def pL:ep:=⟨3,mkS [40]⟩
def pR:ep:=⟨3,mkS [41]⟩
def cM:ep:=⟨3,mkS [44]⟩
def sgS (op:Int):Str:=if op=3 then mkS [43] else if op=4 then mkS [45] else if op=5 then mkS [42] else if op=6 then mkS [47] else if op=7 then mkS [37] else if op=8 then mkS [60] else if op=9 then mkS [61] else if op=10 then mkS [38] else if op=11 then mkS [33] else mkS [64]
def sgW (op:Int):ep:=⟨3,sgS op⟩
def aW:List (List ep)→List ep
 | []=>[]
 | x::r=>x++(r.map (cM::·)).flatten
def kid (e:eu) (i:Nat):eu:=(e.kids[i]?).getD noE
def brW (b:Bool) (ws:List ep):List ep:=if b then pL::(ws++[pR]) else ws
def wE:Nat→eu→List ep
 | 0,_=>[]
 | d+1,e =>
  if e.op=1 then [⟨2,tW e.n_⟩]
  else if e.op=2 then [⟨1,e.name⟩]
  else if e.op=13 then ⟨1,e.name⟩::pL::(aW (e.kids.map (wE d))++[pR])
  else if e.op=11∨e.op=12 then sgW e.op::brW (decide (lvI (kid e 0).op<5)) (wE d (kid e 0))
  else brW (decide (lvI (kid e 0).op<lvI e.op)) (wE d (kid e 0))++sgW e.op::brW (decide (lvI (kid e 1).op≤lvI e.op)) (wE d (kid e 1))
theorem sK (l:List (List ep)) (x:List ep):aW (l++[x])=if l=[] then x else aW l++cM::x:=by
 cases l with
 | nil=>simp [aW]
 | cons y l=>simp [aW]
theorem xH {op:Int} (h:inB op 1 13=true):(op=1∨op=2∨op=13)∧lvI op=6∨(op=11∨op=12)∧lvI op=5∨(3≤op∧op≤10)∧(lvI op=1∨lvI op=2∨lvI op=3∨lvI op=4):=by
 rcases zF h with rfl | rfl | rfl | rfl | rfl | rfl | rfl | rfl | rfl | rfl | rfl | rfl | rfl<;>simp [lvI]
theorem ax0 {op:Int} (h:3≤op∧op≤10):((jg.get ez op).getD (⟨mkS [],0⟩:fN)).sign=sgS op:=by
 have:op=3∨op=4∨op=5∨op=6∨op=7∨op=8∨op=9∨op=10:=by omega
 rcases this with rfl | rfl | rfl | rfl | rfl | rfl | rfl | rfl<;>rfl
theorem y9 {op:Int} (h:3≤op∧op≤12):ir op=some (sgS op):=by
 have:op=3∨op=4∨op=5∨op=6∨op=7∨op=8∨op=9∨op=10∨op=11∨op=12:=by omega
 rcases this with rfl | rfl | rfl | rfl | rfl | rfl | rfl | rfl | rfl | rfl<;>rfl
theorem ob {e:eu} (h:oP e=true):inB e.op 1 13=true∧(e.op=1→0≤e.n_∧e.n_≤255)∧(e.op=1∨e.n_=0)∧((e.op=2∨e.op=13)→iL e.name=true)∧(¬ (e.op=2∨e.op=13)→e.name=mkS []) ∧
  ((e.op=1∨e.op=2)→e.kids=[])∧((e.op=11∨e.op=12)→∃ a,e.kids=[a])∧((3≤e.op∧e.op≤10)→∃ a b,e.kids=[a,b])∧e.kids.length≤3:=by
 have hk3:=sw h
 unfold oP at h
 simp only [Bool.and_eq_true,decide_eq_true_iff] at h
 obtain ⟨h1,h2,h3,h4,h5⟩:=h
 have h4':=kP.1 h4
 have h2':=kP.1 h2
 refine ⟨h1,λ_=>h4',h5,λhc=>?_,λhc=>?_,λhc=>?_,λhc=>?_,λhc=>?_,hk3⟩
 ·rw [if_pos hc] at h3;exact h3
 ·rw [if_neg hc,decide_eq_true_iff] at h3;exact h3
 ·have : mh e.op = (0, 0) := by unfold mh; rw [if_pos hc]
  rw [this] at h2'
  exact List.eq_nil_of_length_eq_zero (by have:=h2'.2;dsimp only at this;omega)
 ·have : mh e.op = (1, 1) := by unfold mh; rw [if_neg (by omega), if_pos hc]
  rw [this] at h2'
  match hk:e.kids,h2' with
  | [a],_=>exact ⟨a,rfl⟩
  | [],h=>simp at h
  | _::_::_,h=>simp at h;omega
 ·have : mh e.op = (2, 2) := by unfold mh; rw [if_neg (by omega), if_neg (by omega), if_neg (by omega)]
  rw [this] at h2'
  match hk:e.kids,h2' with
  | [a,b],_=>exact ⟨a,b,rfl⟩
  | [],h=>simp at h
  | [_],h=>simp at h
  | _::_::_::_,h=>simp at h;omega
theorem qT:∀ {d:Nat} {e:eu},gj d e=true→wE d e≠[]:=by
 intro d e h
 cases d with
 | zero=>rw [gj] at h;cases h
 | succ d =>
  rw [wE]
  repeat' split
  all_goals simp
theorem zm {b:Bool} {ws:List ep} (h:ws≠[]):brW b ws≠[]:=by
 unfold brW;split
 ·simp
 ·exact h
theorem xw (b:Bool) (ws:List ep):(brW b ws).length≤ws.length+2:=by
 unfold brW;split<;>simp
theorem aq3:∀ l:List (List ep),(aW l).length≤(l.map List.length).sum+l.length
 | []=>by simp [aW]
 | x::r=>by
  have:∀ r:List (List ep),((r.map (cM::·)).flatten).length=(r.map List.length).sum+r.length:=by
   intro r
   induction r with
   | nil=>rfl
   | cons y r ih=>simp at ih ⊢;omega
  simp only [aW,List.length_append,this,List.map_cons,List.sum_cons,List.length_cons]
  omega
theorem av1 (a b:List (List ep)):(aW a).length≤(aW (a++b)).length:=by
 cases a with
 | nil=>simp [aW]
 | cons x r=>simp [aW]
theorem rO:∀ {d:Nat} {e:eu},gj d e=true→(wE d e).length+3≤6*iT e
 | 0,e,h=>by rw [gj] at h;cases h
 | d+1,e,h=>by
  obtain ⟨h1,h2⟩:=ka h
  obtain ⟨i1,_,_,_,_,i6,i7,i8,i9⟩:=ob h1
  rw [kq,wE]
  by_cases c1:e.op=1
  ·rw [if_pos c1];simp;omega
  rw [if_neg c1]
  by_cases c2:e.op=2
  ·rw [if_pos c2];simp;omega
  rw [if_neg c2]
  by_cases c3:e.op=13
  ·rw [if_pos c3]
   have h4:=aq3 (e.kids.map (wE d))
   have h5:∀ ks:List eu,(∀ k∈ks,gj d k=true)→((ks.map (wE d)).map List.length).sum+3*ks.length≤6*iz ks:=by
    intro ks
    induction ks with
    | nil=>intro _;simp
    | cons k ks ih =>
     intro hk
     have g1:=rO (hk k (by simp))
     have g2:=ih λx hx=>hk x (by simp [hx])
     rw [ig]
     simp at g2 ⊢
     omega
   have h6:=h5 e.kids h2
   simp at h4 ⊢
   simp at h6
   omega
  rw [if_neg c3]
  by_cases c4:e.op=11∨e.op=12
  ·rw [if_pos c4]
   obtain ⟨a,ha⟩:=i7 c4
   have hk:kid e 0=a:=by unfold kid;rw [ha];rfl
   have g1:=rO (h2 a (by rw [ha];simp))
   have g2:=xw (decide (lvI a.op<5)) (wE d a)
   rw [hk,ha,ig,j6]
   simp
   omega
  ·rw [if_neg c4]
   rw [kP] at i1
   obtain ⟨a,b,ha⟩:=i8 (by omega)
   have hk:kid e 0=a:=by unfold kid;rw [ha];rfl
   have hk1:kid e 1=b:=by unfold kid;rw [ha];rfl
   have g1:=rO (h2 a (by rw [ha];simp))
   have g2:=xw (decide (lvI a.op<lvI e.op)) (wE d a)
   have g3:=rO (h2 b (by rw [ha];simp))
   have g4:=xw (decide (lvI b.op≤lvI e.op)) (wE d b)
   rw [hk,hk1,ha,ig,ig,j6]
   simp
   omega
theorem as8:∀ (d:Nat) (e:eu) (list:List ep) (around:Bool),gj d e=true→list.length+(wE d e).length+2*d+2≤100000→hY list e around=some (list++brW around (wE d e)):=by
 intro d
 induction d with
 | zero=>intro e list around h;rw [gj] at h;cases h
 | succ d ih =>
  intro e list around h hl
  have key:∀ list:List ep,list.length+(wE (d+1) e).length+2*d+2≤100000→hY list e false=some (list++wE (d+1) e):=by
   intro list hl
   obtain ⟨h1,h2⟩:=ka h
   obtain ⟨i1,i2,_,_,_,i6,i7,i8,i9⟩:=ob h1
   rw [hY]
   simp only [Bool.false_eq_true,if_false,rU,gV,fK,obS,decide_eq_true_eq]
   have hwe:=hl
   rw [wE] at hwe ⊢
   by_cases c1:e.op=1
   ·rw [if_pos c1]
    rw [if_pos c1] at hwe ⊢
    obtain ⟨n,hn⟩:∃ n:Nat,e.n_=n:=⟨e.n_.toNat,by have:=i2 c1;omega⟩
    have hn2:=i2 c1
    rw [hn,(ux (by omega)).1,obS,jM (by simp at hwe ⊢;omega)];rfl
   rw [if_neg c1] at hwe ⊢
   rw [if_neg c1]
   by_cases c2:e.op=2
   ·rw [if_pos c2,if_pos c2] at *
    rw [jM (by simp at hwe ⊢;omega)];rfl
   rw [if_neg c2] at hwe ⊢
   rw [if_neg c2]
   by_cases c3:e.op=13
   ·rw [if_pos c3] at hwe ⊢
    rw [if_pos c3,jM (by simp at hwe ⊢;omega),obS]
    simp at hwe
    rcases jE (xs := e.kids) (body := (fun (uA : Int) (uB : (List ep)) => ((fT e.kids uA).bind fun uC => (if decide (0 < uA) then (fK (mkS [44])).bind fun uD => (fr uB ([uD] : List ep)).bind fun uE => some uE else some uB : Option ((List ep))).bind fun uF => (hY uF uC false).bind fun uG => some (.inl uG) : Option (((List ep)) ⊕ (Empty))))) (s := list ++ [⟨1, e.name⟩, ⟨3, mkS [40]⟩]) (fun l s => s = list ++ ⟨1, e.name⟩ :: pL :: aW (l.map (wE d))) (fun _ => False) rfl (fun l x r s hx hI => .inl (by
     have hmo:=av1 ((l++[x]).map (wE d)) (r.map (wE d))
     rw [← List.map_append,List.append_assoc,List.singleton_append,← hx,List.map_append,List.map_cons,List.map_nil,sK] at hmo
     have hfx:=h2 x (by rw [hx];simp)
     have hg:fT e.kids (l.length:Int)=some x:=by rw [hx,iJ]
     subst hI
     by_cases hl0:l=[]
     ·subst hl0
      have e0:decide (0<(([]:List eu).length:Int))=false:=rfl
      simp at hmo
      refine ⟨_,?_,rfl⟩
      rw [hg,e0,obS]
      simp only [Bool.false_eq_true,if_false,obS]
      rw [ih x _ false hfx (by simp [aW];omega)]
      simp [aW,brW]
     ·have e0 : decide (0 < (l.length : Int)) = true := by have := List.length_pos_iff.2 hl0; simp; omega
      have hl1:l.map (wE d)≠[]:=by simpa using hl0
      rw [if_neg hl1] at hmo
      simp at hmo
      refine ⟨_,?_,rfl⟩
      rw [hg,e0,obS]
      simp only [if_true,fK,obS]
      rw [jM (by simp;omega),obS,obS,ih x _ false hfx (by simp;omega)]
      rw [List.map_append,List.map_cons,List.map_nil,sK,if_neg hl1]
      simp [brW,cM])) with ⟨s,h3,h4⟩ | ⟨y,_,h4⟩
    ·simp only [Bool.false_eq_true,if_false,rU,gV,fK,obS,decide_eq_true_eq] at h3
     rw [h3,h4]
     simp only [obS,Sum.elim_inl]
     rw [jM (by simp;omega)]
     simp [pR,obS]
    ·exact h4.elim
   rw [if_neg c3] at hwe ⊢
   rw [if_neg c3]
   by_cases c4:e.op=11∨e.op=12
   ·obtain ⟨a,ha⟩:=i7 c4
    have hk:kid e 0=a:=by unfold kid;rw [ha];rfl
    have hlv:lvI e.op=5:=by rcases c4 with h | h<;>rw [h]<;>rfl
    have hsg:(if decide (e.op=12) then some (mkS [64]) else some (mkS [33]):Option Str)=some (sgS e.op):=by rcases c4 with h | h<;>rw [h]<;>rfl
    have hg:fT e.kids 0=some a:=by rw [ha];rfl
    rw [if_pos c4,hk] at hwe ⊢
    have hb:=h2 a (by rw [ha];simp)
    have hbr:(wE d a).length≤(brW (decide (lvI a.op<5)) (wE d a)).length:=by unfold brW;split<;>simp;omega
    simp at hwe
    rw [if_pos hlv]
    simp only [decide_eq_true_eq] at hsg
    rw [hsg,hg,obS,obS,jM (by simp;omega),obS,ih a _ _ hb (by simp;omega)]
    simp [sgW]
   ·rw [kP] at i1
    obtain ⟨a,b,ha⟩:=i8 (by omega)
    have hk:kid e 0=a:=by unfold kid;rw [ha];rfl
    have hk1:kid e 1=b:=by unfold kid;rw [ha];rfl
    have hlv:¬ lvI e.op=5:=by
     rcases xH (kP.2 i1) with h | h | h<;>omega
    have hg:fT e.kids 0=some a:=by rw [ha];rfl
    have hg1:fT e.kids 1=some b:=by rw [ha];rfl
    rw [if_neg c4,hk,hk1] at hwe ⊢
    have hb:=h2 a (by rw [ha];simp)
    have hb1:=h2 b (by rw [ha];simp)
    have hbr:(wE d a).length≤(brW (decide (lvI a.op<lvI e.op)) (wE d a)).length:=by unfold brW;split<;>simp;omega
    have hbr1:(wE d b).length≤(brW (decide (lvI b.op≤lvI e.op)) (wE d b)).length:=by unfold brW;split<;>simp;omega
    simp at hwe
    rw [if_neg hlv,hg,hg1,obS,ih a _ _ hb (by omega),obS,ax0 (by omega),jM (by simp;omega),obS,obS,ih b _ _ hb1 (by simp;omega)]
    simp [sgW]
  cases around with
  | false=>rw [key list (by omega)];rfl
  | true =>
   rw [hY]
   simp only [if_true,fK,obS]
   rw [jM (by simp;omega),obS,key _ (by simp;omega),obS,jM (by simp;omega)]
   simp [brW,pL,pR]
end Prg
end Go.Wk
namespace Go.Wk
open Go
namespace Prg
set_option maxRecDepth 10000
theorem zH {op:Int}:k9 (sgW op)=true:=by
 unfold sgW sgS
 repeat' split
 all_goals rfl
theorem mX {a b:List ep} (ha:vW a) (hb:vW b):vW (a++b):=λw hw=>by
 rcases List.mem_append.1 hw with h | h
 ·exact ha w h
 ·exact hb w h
theorem ij {w:ep} {b:List ep} (ha:k9 w=true) (hb:vW b):vW (w::b):=λx hx=>by
 rcases List.mem_cons.1 hx with rfl | h
 ·exact ha
 ·exact hb x h
theorem mu:vW []:=λw hw=>by cases hw
theorem tZ {b:Bool} {ws:List ep} (h:vW ws):vW (brW b ws):=by
 unfold brW
 split
 ·exact ij rfl (mX h (ij rfl mu))
 ·exact h
theorem yv:∀ {l:List (List ep)},(∀ x∈l,vW x)→vW (aW l)
 | [],_=>mu
 | x::r,h=>by
  unfold aW
  refine mX (h x (by simp)) λw hw=>?_
  obtain ⟨y,hy,hw⟩:=List.mem_flatten.1 hw
  obtain ⟨z,hz,rfl⟩:=List.mem_map.1 hy
  exact ij (w:=cM) rfl (h z (by simp [hz])) w hw
theorem oI:∀ {d:Nat} {e:eu},gj d e=true→vW (wE d e)
 | 0,e,h=>by rw [gj] at h;cases h
 | d+1,e,h=>by
  obtain ⟨h1,h2⟩:=ka h
  obtain ⟨i1,i2,_,i4,_,i6,i7,i8,i9⟩:=ob h1
  rw [wE]
  by_cases c1:e.op=1
  ·rw [if_pos c1]
   refine ij ?_ mu
   obtain ⟨n,hn⟩:∃ n:Nat,e.n_=n:=⟨e.n_.toNat,by have:=i2 c1;omega⟩
   have hn2:=i2 c1
   have:=xM (n:=n) (by omega)
   show decide (0≤mS (tW e.n_))=true
   rw [hn,this];simp
  rw [if_neg c1]
  by_cases c2:e.op=2
  ·rw [if_pos c2]
   exact ij (i4 (.inl c2)) mu
  rw [if_neg c2]
  by_cases c3:e.op=13
  ·rw [if_pos c3]
   refine ij (i4 (.inr c3)) (ij rfl (mX (yv λx hx=>?_) (ij rfl mu)))
   obtain ⟨k,hk,rfl⟩:=List.mem_map.1 hx
   exact oI (h2 k hk)
  rw [if_neg c3]
  by_cases c4:e.op=11∨e.op=12
  ·rw [if_pos c4]
   obtain ⟨a,ha⟩:=i7 c4
   have hk:kid e 0=a:=by unfold kid;rw [ha];rfl
   rw [hk]
   exact ij zH (tZ (oI (h2 a (by rw [ha];simp))))
  ·rw [if_neg c4]
   rw [kP] at i1
   obtain ⟨a,b,ha⟩:=i8 (by omega)
   have hk:kid e 0=a:=by unfold kid;rw [ha];rfl
   have hk1:kid e 1=b:=by unfold kid;rw [ha];rfl
   rw [hk,hk1]
   exact mX (tZ (oI (h2 a (by rw [ha];simp)))) (ij zH (tZ (oI (h2 b (by rw [ha];simp)))))
theorem jd {s t:Str} (h:s.b.length+t.b.length≤100000000):∃ u,iB s t=some u∧u.b=s.b++t.b:=⟨⟨s.b++t.b,by simp;omega⟩,fW.2 ⟨by omega,rfl⟩,rfl⟩
theorem nZ {d:Nat} {e:eu} (h:gj d e=true):(txt (wE d e)).length≤30*iT e:=by
 have h1:=pD _ (oI h)
 have h2:=rO h
 omega
theorem al5 {ws:List ep} (h:ws≠[]):txt (brW true ws)=[40,32]++txt ws++[32,41]:=by
 show txt (pL::(ws++[pR]))=_
 rw [im (by simp),jy h (by simp),kj]
 simp [pL,pR,mkS]
theorem rV (b:Bool) {ws:List ep} (h:ws≠[]):(txt (brW b ws)).length≤(txt ws).length+4:=by
 cases b with
 | true=>rw [al5 h];simp
 | false=>show (txt ws).length≤_;omega
theorem an9 (op:Int):(sgS op).b.length=1:=by
 unfold sgS
 repeat' split
 all_goals rfl
theorem ax1:∀ (d:Nat) (e:eu) (need:Int),gj d e=true→iT e≤1000→∃ T,jQ e need=some T∧T.b=txt (brW (decide (lvI e.op<need)) (wE d e)):=by
 intro d
 induction d with
 | zero=>intro e need h;rw [gj] at h;cases h
 | succ d ih =>
  intro e need h hp
  have hlen:=nZ h
  have hne:=qT h
  obtain ⟨h1,h2⟩:=ka h
  obtain ⟨i1,i2,_,i4,_,i6,i7,i8,i9⟩:=ob h1
  have hpe:=kq e
  have core:∃ T:Str,T.b=txt (wE (d+1) e)∧jQ e need=(if decide (lvI e.op<need) then (iB (mkS [40,32]) T).bind λuC=>(iB uC (mkS [32,41])).bind λuD=>some uD else some T):=by
   rw [jQ,y7]
   simp only [obS]
   rw [wE]
   by_cases c1:e.op=1
   ·obtain ⟨n, hn⟩ : ∃ n : Nat, e.n_ = n := ⟨e.n_.toNat, by have := i2 c1; omega⟩
    have hn2:=i2 c1
    refine ⟨tW e.n_,?_,?_⟩
    ·rw [if_pos c1,kj]
    ·have e1:decide (e.op=1)=true:=decide_eq_true c1
     rw [e1,hn,xP (by omega)];rfl
   have e1:decide (e.op=1)=false:=decide_eq_false c1
   by_cases c2:e.op=2
   ·refine ⟨e.name,?_,?_⟩
    ·rw [if_neg c1,if_pos c2,kj]
    ·have e2:decide (e.op=2)=true:=decide_eq_true c2
     rw [e1,e2];rfl
   have e2:decide (e.op=2)=false:=decide_eq_false c2
   rw [e1,e2,if_neg c1,if_neg c2]
   by_cases c3:e.op=13
   ·have e3:decide (e.op=13)=true:=decide_eq_true c3
    rw [e3,if_pos c3]
    have h40:(mkS [32,40]).b.length=2:=rfl
    have h41:(mkS [32,41]).b.length=2:=rfl
    have h44:(mkS [32,44]).b.length=2:=rfl
    have h32:(mkS [32]).b.length=1:=rfl
    have hnm:e.name.b.length≤4:=by
     have:=i4 (.inr c3)
     unfold iL at this
     simp only [Bool.and_eq_true,decide_eq_true_iff] at this
     exact this.1.2
    obtain ⟨u,u1,u2⟩:=jd (s:=e.name) (t:=mkS [32,40]) (by omega)
    have hu:=congrArg List.length u2
    rw [List.length_append,h40] at hu
    simp only [Bool.false_eq_true,if_false,if_true,u1,obS]
    have hpk:=hp
    rcases jE (xs := e.kids) (body := (fun (uA : Int) (uB : Str) => ((if decide (0 < uA) then (iB uB (mkS [32, 44])).bind fun uE => some uE else some uB : Option (Str)).bind fun uF => (iB uF (mkS [32])).bind fun uG => (fT e.kids uA).bind fun uH => (jQ uH 1).bind fun uI => (iB uG uI).bind fun uJ => some (.inl uJ) : Option ((Str) ⊕ (Empty))))) (s := u) (fun l s => s.b = txt (⟨1, e.name⟩ :: pL :: aW (l.map (wE d))) ∧ s.b.length ≤ 6 + 40 * iz l) (fun _ => False) ⟨by rw [u2]; show _ = txt [⟨1, e.name⟩, pL]; rw [im (by simp), kj]; rfl, by omega⟩ (fun l x r s hx hI => .inl (by
     obtain ⟨hI,hI2⟩:=hI
     have hfx:=h2 x (by rw [hx];simp)
     have hpx:=oV (k:=x) (l:=e.kids) (by rw [hx];simp)
     have hpl:iz e.kids=iz l+(iT x+iz r):=by rw [hx,mD,ig]
     have hps:iz (l++[x])=iz l+iT x:=by rw [mD,ig,j6];omega
     obtain ⟨T,t1,t2⟩:=ih x 1 hfx (by omega)
     have hlv:decide (lvI x.op<1)=false:=by
      have h0:oP x=true:=by
       cases d with
       | zero=>rw [gj] at hfx;cases hfx
       | succ d=>exact (ka hfx).1
      rcases xH (ob h0).1 with h | h | h<;>(apply decide_eq_false;omega)
     rw [hlv] at t2
     have t2:T.b=txt (wE d x):=t2
     have hlx:=nZ hfx
     have hpx1:1≤iT x:=by rw [kq];omega
     have hg:fT e.kids (l.length:Int)=some x:=by rw [hx,iJ]
     by_cases hl0:l=[]
     ·subst hl0
      have e0:decide (0<(([]:List eu).length:Int))=false:=rfl
      obtain ⟨y,y1,y2⟩:=jd (s:=s) (t:=mkS [32]) (by omega)
      have hy:=congrArg List.length y2
      rw [List.length_append,h32] at hy
      obtain ⟨z,z1,z2⟩:=jd (s:=y) (t:=T) (by rw [t2];omega)
      have hz:=congrArg List.length z2
      rw [List.length_append,t2] at hz
      refine ⟨z,?_,?_,by rw [hps];omega⟩
      ·simp only [e0,Bool.false_eq_true,if_false,y1,hg,t1,z1,obS]
      ·have e4 : aW (([] ++ [x]).map (wE d)) = wE d x := by simp [aW]
       rw [z2,y2,hI,t2,e4]
       show txt [⟨1,e.name⟩,pL]++(mkS [32]).b++_=txt ([⟨1,e.name⟩,pL]++wE d x)
       rw [jy (by simp) (qT hfx)]
       simp [mkS]
     ·have e0 : decide (0 < (l.length : Int)) = true := by have := List.length_pos_iff.2 hl0; simp; omega
      have hl1:l.map (wE d)≠[]:=by simpa using hl0
      obtain ⟨q,q1,q2⟩:=jd (s:=s) (t:=mkS [32,44]) (by omega)
      have hq:=congrArg List.length q2
      rw [List.length_append,h44] at hq
      obtain ⟨y,y1,y2⟩:=jd (s:=q) (t:=mkS [32]) (by omega)
      have hy:=congrArg List.length y2
      rw [List.length_append,h32] at hy
      obtain ⟨z,z1,z2⟩:=jd (s:=y) (t:=T) (by rw [t2];omega)
      have hz:=congrArg List.length z2
      rw [List.length_append,t2] at hz
      refine ⟨z,?_,?_,by rw [hps];omega⟩
      ·simp only [e0,if_true,q1,y1,hg,t1,z1,obS]
      ·rw [z2,y2,q2,hI,t2,List.map_append,List.map_cons,List.map_nil,sK,if_neg hl1]
       show _=txt ((⟨1,e.name⟩::pL::aW (l.map (wE d)))++cM::wE d x)
       rw [jy (by simp) (by simp),im (w:=cM) (qT hfx)]
       simp [mkS,cM])) with ⟨s,h3,h4,h5⟩ | ⟨y,_,h4⟩
    ·obtain ⟨z, z1, z2⟩ := jd (s := s) (t := mkS [32, 41]) (by omega)
     refine ⟨z,?_,?_⟩
     ·rw [z2,h4]
      show _=txt ((⟨1,e.name⟩::pL::aW (e.kids.map (wE d)))++[pR])
      rw [jy (by simp) (by simp),kj]
      simp [mkS,pR]
     ·rw [h3]
      simp only [obS,Sum.elim_inl,z1]
    ·exact h4.elim
   have e3:decide (e.op=13)=false:=decide_eq_false c3
   rw [e3,if_neg c3]
   by_cases c4:e.op=11∨e.op=12
   ·have hlv : lvI e.op = 5 := by rcases c4 with h | h <;> rw [h] <;> rfl
    obtain ⟨a,ha⟩:=i7 c4
    have hk:kid e 0=a:=by unfold kid;rw [ha];rfl
    have hg:fT e.kids 0=some a:=by rw [ha];rfl
    have hfa:=h2 a (by rw [ha];simp)
    have hpa:iT a≤1000:=by have:=oV (k:=a) (l:=e.kids) (by rw [ha];simp);omega
    obtain ⟨T,t1,t2⟩:=ih a 5 hfa hpa
    have hla:=nZ hfa
    have hlb:=rV (decide (lvI a.op<5)) (qT hfa)
    have hsg:=an9 e.op
    have h32:(mkS [32]).b.length=1:=rfl
    obtain ⟨u,u1,u2⟩:=jd (s:=sgS e.op) (t:=mkS [32]) (by omega)
    have hu:=congrArg List.length u2
    rw [List.length_append,h32,hsg] at hu
    obtain ⟨v,v1,v2⟩:=jd (s:=u) (t:=T) (by rw [t2];omega)
    refine ⟨v,?_,?_⟩
    ·rw [if_pos c4,hk,im (zm (qT hfa)),v2,u2,t2]
     simp [sgW,mkS]
    ·have e5:decide (lvI e.op=5)=true:=decide_eq_true hlv
     simp only [Bool.false_eq_true,if_false,e5,if_true,hg,y9 (show 3≤e.op∧e.op≤12 by omega),u1,t1,v1,obS]
   ·rw [kP] at i1
    have hlv:lvI e.op=1∨lvI e.op=2∨lvI e.op=3∨lvI e.op=4:=by
     rcases xH (kP.2 i1) with h | h | h<;>omega
    obtain ⟨a,b,ha⟩:=i8 (by omega)
    have hk:kid e 0=a:=by unfold kid;rw [ha];rfl
    have hk1:kid e 1=b:=by unfold kid;rw [ha];rfl
    have hg:fT e.kids 0=some a:=by rw [ha];rfl
    have hg1:fT e.kids 1=some b:=by rw [ha];rfl
    have hfa:=h2 a (by rw [ha];simp)
    have hfb:=h2 b (by rw [ha];simp)
    have hpa:iT a≤1000:=by have:=oV (k:=a) (l:=e.kids) (by rw [ha];simp);omega
    have hpb:iT b≤1000:=by have:=oV (k:=b) (l:=e.kids) (by rw [ha];simp);omega
    have ew:w64 (lvI e.op+1)=lvI e.op+1:=gu (by omega) (by omega)
    have eb:decide (lvI b.op<lvI e.op+1)=decide (lvI b.op≤lvI e.op):=by rw [decide_eq_decide];omega
    obtain ⟨T,t1,t2⟩:=ih a (lvI e.op) hfa hpa
    obtain ⟨T2,s1,s2⟩:=ih b (lvI e.op+1) hfb hpb
    rw [eb] at s2
    have hla:=nZ hfa
    have hlb:=rV (decide (lvI a.op<lvI e.op)) (qT hfa)
    have hla2:=nZ hfb
    have hlb2:=rV (decide (lvI b.op≤lvI e.op)) (qT hfb)
    have hsg:=an9 e.op
    have h32:(mkS [32]).b.length=1:=rfl
    obtain ⟨u,u1,u2⟩:=jd (s:=T) (t:=mkS [32]) (by rw [t2,h32];omega)
    have hu:=congrArg List.length u2
    rw [List.length_append,h32,t2] at hu
    obtain ⟨v,v1,v2⟩:=jd (s:=u) (t:=sgS e.op) (by omega)
    have hv:=congrArg List.length v2
    rw [List.length_append,hsg] at hv
    obtain ⟨x,x1,x2⟩:=jd (s:=v) (t:=mkS [32]) (by omega)
    have hx:=congrArg List.length x2
    rw [List.length_append,h32] at hx
    obtain ⟨y,y1,y2⟩:=jd (s:=x) (t:=T2) (by rw [s2];omega)
    refine ⟨y,?_,?_⟩
    ·rw [if_neg c4, hk, hk1, jy (zm (qT hfa)) (by simp), im (zm (qT hfb)), y2, x2, v2, u2, t2, s2]
     simp [sgW,mkS]
    ·have e5 : decide (lvI e.op = 5) = false := decide_eq_false (by omega)
     simp only [Bool.false_eq_true,if_false,e5,hg,hg1,y9 (show 3≤e.op∧e.op≤12 by omega),ew,u1,t1,v1,x1,s1,y1,obS]
  obtain ⟨T,t1,t2⟩:=core
  rw [t2]
  cases hb:decide (lvI e.op<need) with
  | false=>exact ⟨T,rfl,t1⟩
  | true =>
   have h40:(mkS [40,32]).b.length=2:=rfl
   have h41:(mkS [32,41]).b.length=2:=rfl
   obtain ⟨u,u1,u2⟩:=jd (s:=mkS [40,32]) (t:=T) (by rw [t1,h40];omega)
   have hu:=congrArg List.length u2
   rw [List.length_append,h40,t1] at hu
   obtain ⟨v,v1,v2⟩:=jd (s:=u) (t:=mkS [32,41]) (by omega)
   refine ⟨v,?_,?_⟩
   ·rw [if_pos rfl,u1,obS,v1];rfl
   ·rw [v2,u2,t1,al5 hne];rfl
end Prg
end Go.Wk
namespace Go.Wk
open Go
namespace Prg
set_option maxRecDepth 10000
def xW (ws:List ep):Str × Bool:=if ws.length≤600∧(txt ws).length≤3000 then (toS (txt ws),true) else (mkS [],false)
theorem ba0 (ws:List ep) (h:vW ws):lO ws=some (xW ws):=by
 unfold lO
 by_cases h6:ws.length≤600
 ·have e1 : decide (600 < (ws.length : Int)) = false := by simp; omega
  rw [e1]
  simp only [Bool.false_eq_true,if_false]
  rw [zE (by omega) (by omega),obS,show ((ws.length:Int)).toNat=ws.length by omega]
  rw [zB (xs:=ws) (body:=(λ(uA:Int) (uB:(List Str))=>((fT ws uA).bind λuC=>(kI uC).bind λuD=>if !(uD) then some (.inr ((mkS []),false)) else (fT uB uA).bind λuE=>some (.inl (uB.set (uA).toNat uC.text)):Option (((List Str)) ⊕ (Str × Bool))))) (λw=>w.text) (λl x r ys he hl=>by
   have hx:=h x (by rw [he];simp)
   have hg:fT ws (l.length:Int)=some x:=by rw [he,iJ]
   rw [hg,obS,sU,hx,obS,show ((l.length:Int)).toNat=l.length by omega,oo,List.getElem?_eq_getElem hl];rfl)]
  have hb:=pD ws h
  have hm:(ws.map (λw=>w.text)).map (·.b)=ws.map (λw=>w.text.b):=by simp
  have hj:strings_Join (ws.map (λw=>w.text)) (mkS [32])=some (toS (txt ws)):=by
   unfold strings_Join ae0
   have h1:(Lib.join ((ws.map (λw=>w.text)).map (·.b)) (mkS [32]).b).length≤140737488355328:=by
    rw [hm];show (txt ws).length≤_;omega
   rw [dif_pos h1,if_pos (by simp;omega)]
   refine congrArg some (Str.ext' ?_)
   rw [tx (by omega)]
   show Lib.join ((ws.map (λw=>w.text)).map (·.b)) [32]=txt ws
   rw [hm];rfl
  simp only [obS,Sum.elim_inl,hj]
  have hl:(toS (txt ws)).b.length=(txt ws).length:=by rw [tx (by omega)]
  rw [hl]
  by_cases h7:(txt ws).length≤3000
  ·have hv:xW ws=(toS (txt ws),true):=if_pos ⟨h6,h7⟩
   rw [hv,if_neg (by simp;omega)]
  ·have hv:xW ws=(mkS [],false):=if_neg λh'=>h7 h'.2
   rw [hv,if_pos (decide_eq_true (by omega))]
 ·have hv:xW ws=(mkS [],false):=if_neg λh'=>h6 h'.1
  rw [hv,if_pos (decide_eq_true (by omega))]
def bq8 (e:eu):Str × Bool:=if jN e then (toS (txt (wE 6 e)),true) else (mkS [],false)
theorem o6 {e:eu} (h:jN e=true):gj 6 e=true∧iT e≤30:=by
 unfold jN at h
 rw [Bool.and_eq_true,decide_eq_true_iff] at h
 exact h
theorem wh {e:eu} {d:Nat} (h:gj d e=true):1≤lvI e.op:=by
 have h0:oP e=true:=by
  cases d with
  | zero=>rw [gj] at h;cases h
  | succ d=>exact (ka h).1
 rcases xH (ob h0).1 with h | h | h<;>omega
theorem av9 {ws:List ep} (h:vW ws) (h1:ws.length≤600) (h2:(txt ws).length≤3000):r9 (toS (txt ws))=some ws:=by
 unfold r9
 rw [tx (by omega),if_pos h2,ae1 ws h]
 simp [h1]
theorem bj7:∀ e:eu,jH e e=some true:=by
 intro e
 induction e using sL with
 | h e ih =>
  have hs:fL e.kids e.kids (λy0 y1=>jH y0 y1)=some true:=by
   unfold fL
   rw [if_neg (by simp)]
   generalize e.kids=ks at ih
   rw [l9 (xs:=ks) (body:=(λ(uA:Int) (uE:Unit)=>((fT ks uA).bind λuB=>(fT ks uA).bind λuC=>((λy0 y1 ↦ jH y0 y1) uB uC).bind λuD=>if !(uD) then some (.inr false) else some (.inl ()):Option ((Unit) ⊕ (Bool))))) (λ_=>false) false (λl x r he=>by
    rw [he,iJ,obS,obS]
    show (jH x x).bind _=_
    rw [ih x (by rw [he];simp)];rfl)]
   have:ks.any (λ_=>false)=false:=by simp
   rw [this];rfl
  rw [jH]
  simp only [decide_true,if_true,hs,obS]
theorem bi2:∀ e:eu,jk e e=some true:=by
 intro e
 induction e using sL with
 | h e ih =>
  rw [jk]
  simp only [ne_eq,not_true_eq_false,decide_false,Bool.false_eq_true,if_false,obS]
  rw [l9 (xs:=e.kids) (body:=(λ(uA:Int) (uE:Unit)=>((fT e.kids uA).bind λuB=>(fT e.kids uA).bind λuC=>(jk uB uC).bind λuD=>if !(uD) then some (.inr false) else some (.inl ()):Option ((Unit) ⊕ (Bool))))) (λ_=>false) false (λl x r he=>by
   rw [he,iJ,obS,obS,ih x (by rw [he];simp)];rfl)]
  have:e.kids.any (λ_=>false)=false:=by simp
  rw [this];rfl
end Prg
end Go.Wk
namespace Go.Wk
open Go
namespace Prg
set_option maxRecDepth 10000
def qF (need:Int) (r:List ep):Prop:=(∀ m:Int,need≤m→m≤4→opT m r=0)∧isT r (mkS [40])=false
theorem ah8 {a b:Int} {r:List ep} (h:qF a r) (hab:a≤b):qF b r:=⟨λm h1 h2=>h.1 m (by omega) h2,h.2⟩
theorem ar8 (a:Int):qF a []:=⟨λ_ _ _=>rfl,rfl⟩
theorem aa7 {w:ep} (h:w.text=mkS [41]∨w.text=mkS [44]) (m:Int):opW m w=0:=by
 unfold opW
 rcases h with h | h<;>rw [h]<;>(repeat' split)<;>first | rfl | (rename_i h';revert h';decide)
theorem yC (a:Int) (r:List ep):qF a (pR::r):=⟨λm _ _=>aa7 (.inl rfl) m,rfl⟩
theorem ad1 (a:Int) (r:List ep):qF a (cM::r):=⟨λm _ _=>aa7 (.inr rfl) m,rfl⟩
theorem bn4 {op:Int} (h:3≤op∧op≤10):opW (lvI op) (sgW op)=op∧(∀ m:Int,lvI op<m→m≤4→opW m (sgW op)=0)∧(sgW op).text≠mkS [40]:=by
 have:op=3∨op=4∨op=5∨op=6∨op=7∨op=8∨op=9∨op=10:=by omega
 rcases this with rfl | rfl | rfl | rfl | rfl | rfl | rfl | rfl<;>refine ⟨by decide,λm hm hm4=>?_,by decide⟩<;>simp [lvI] at hm<;>unfold opW<;>(repeat' split)<;>first | rfl | omega | (rename_i h';revert h';decide)
theorem ax8:∀ (k:Nat) {hi lo:Int} {ws:List ep} {e:eu} {r:List ep},hi=lo+k→1≤lo→hi≤5→Rd (.E hi ws e r)→(∀ m:Int,lo≤m→m<hi→opT m r=0)→Rd (.E lo ws e r)
 | 0,hi,lo,ws,e,r,h,_,_,h3,_=>by
  have:lo=hi:=by omega
  rw [this];exact h3
 | k+1,hi,lo,ws,e,r,h,h1,h2,h3,h4=>by
  have:=ax8 k (hi:=hi) (lo:=lo+1) (by omega) (by omega) h2 h3 λm g1 g2=>h4 m (by omega) g2
  exact .up (by omega) this (.stop (h4 lo (by omega) (by omega)))
def bk4:Job→Prop
 | .E _ ws _ _=>vW ws→isT ws (mkS [41])=false
 | .L _ _ _ _ _=>True
 | .A _ _ _=>True
 | .M _ _ _ _=>True
theorem aw9 {j:Job} (h:Rd j):bk4 j:=by
 induction h<;>try trivial
 case neg w ws e r hw _ _=>intro _;exact decide_eq_false (by rw [hw];decide)
 case at_ w ws e r hw _ _=>intro _;exact decide_eq_false (by rw [hw];decide)
 case par w ws e v r hw _ _ _=>intro _;exact decide_eq_false (by rw [hw];decide)
 case num w r hw=>intro hv;exact decide_eq_false (mo (ly hv) (by omega) rfl (by decide))
 case var w r hw _=>intro hv;exact decide_eq_false (mo (ly hv) (by omega) rfl (by decide))
 case call w v ws ks r hw _ _ _=>intro hv;exact decide_eq_false (mo (ly hv) (by omega) rfl (by decide))
def zj (d:Nat) (e:eu):Prop:=∀ (need:Int) (r:List ep),1≤need→need≤5→qF need r→Rd (.E need (brW (decide (lvI e.op<need)) (wE d e)++r) e r)
def bi9 (d:Nat) (e:eu):Prop:=∀ (lv:Int) (ws:List ep) (e':eu) (r:List ep),(lv=1∨lv=2∨lv=3∨lv=4)→qF (lv+1) ws→Rd (.L lv e ws e' r)→Rd (.E lv (brW (decide (lvI e.op<lv)) (wE d e)++ws) e' r)
theorem ad3 {d:Nat}:∀ (ks:List eu) (acc:List eu) (r:List ep),(∀ k∈ks,zj d k∧gj d k=true)→Rd (.M acc (((ks.map (wE d)).map (cM::·)).flatten++pR::r) (acc++ks) r)
 | [],acc,r,_=>by rw [List.append_nil];exact .last rfl
 | k::ks,acc,r,h=>by
  have ih:=ad3 ks (acc++[k]) r λx hx=>h x (by simp [hx])
  have hk := (h k (by simp)).1 1 ((((ks.map (wE d)).map (cM :: ·)).flatten) ++ pR :: r) (by omega) (by omega) (by
   cases ks with
   | nil=>exact yC 1 r
   | cons y ks=>exact ad1 1 _)
  have hl:decide (lvI k.op<1)=false:=decide_eq_false (by have:=wh (h k (by simp)).2;omega)
  rw [hl] at hk
  have:=Rd.more (acc:=acc) (v:=cM) rfl hk (by rw [List.append_assoc] at ih;exact ih)
  simpa [brW] using this
theorem bf6:∀ (d:Nat) (e:eu),gj d e=true→zj d e∧bi9 d e:=by
  intro d
  induction d with
  | zero=>intro e h;rw [gj] at h;cases h
  | succ d ih =>
    intro e h
    obtain ⟨h1,h2⟩:=ka h
    obtain ⟨i1,i2,i3,i4,i5,i6,i7,i8,i9⟩:=ob h1
    have hlv1:=wh h
    have U5:5≤lvI e.op→∀ r,isT r (mkS [40])=false→Rd (.E 5 (wE (d+1) e++r) e r):=by
      intro h5 r hr
      rw [wE]
      by_cases c1:e.op=1
      · rw [if_pos c1]
        have he:e=⟨1,xF ⟨2,tW e.n_⟩,mkS [],[]⟩:=by
          obtain ⟨n,hn⟩:∃ n:Nat,e.n_=n:=⟨e.n_.toNat,by have:=i2 c1;omega⟩
          have hn2:=i2 c1
          have hw:xF ⟨2,tW e.n_⟩=e.n_:=by
            unfold xF;rw [if_pos rfl,hn];exact xM (by omega)
          rw [hw]
          have g1:=i6 (.inl c1)
          have g2:=i5 (by omega)
          cases e
          simp at c1 g1 g2 ⊢
          exact ⟨c1,g2,g1⟩
        conv=>rhs
        have:=Rd.num (w:=⟨2,tW e.n_⟩) (r:=r) rfl
        rw [← he] at this
        exact this
      rw [if_neg c1]
      have hn0 : e.n_ = 0 := by rcases i3 with h | h
                                · exact absurd h c1
                                · exact h
      by_cases c2:e.op=2
      · rw [if_pos c2]
        have he:e=⟨2,0,e.name,[]⟩:=by
          have g1:=i6 (.inr c2)
          cases e
          simp at c2 g1 hn0 ⊢
          exact ⟨c2,hn0,g1⟩
        have:=Rd.var (w:=⟨1,e.name⟩) (r:=r) rfl hr
        rw [← he] at this
        exact this
      rw [if_neg c2]
      by_cases c3:e.op=13
      · rw [if_pos c3]
        have he:e=⟨13,0,e.name,e.kids⟩:=by
          cases e
          simp at c3 hn0 ⊢
          exact ⟨c3,hn0⟩
        have hA:Rd (.A (aW (e.kids.map (wE d))++pR::r) e.kids r):=by
          generalize e.kids=ks at h2
          cases ks with
          | nil=>exact .done rfl
          | cons k ks =>
            have hk := (ih k (h2 k (by simp))).1 1 ((((ks.map (wE d)).map (cM :: ·)).flatten) ++ pR :: r) (by omega) (by omega) (by
              cases ks with
              | nil=>exact yC 1 r
              | cons y ks=>exact ad1 1 _)
            have hl:decide (lvI k.op<1)=false:=decide_eq_false (by have:=wh (h2 k (by simp));omega)
            rw [hl] at hk
            have hM:=ad3 ks [k] r λx hx=>⟨(ih x (h2 x (by simp [hx]))).1,h2 x (by simp [hx])⟩
            have hw:aW ((k::ks).map (wE d))++pR::r=brW false (wE d k)++((((ks.map (wE d)).map (cM::·)).flatten)++pR::r):=by simp [aW,brW]
            rw [hw]
            refine .first ?_ hk hM
            have hne:=qT (h2 k (by simp))
            have hv:=oI (h2 k (by simp))
            have hr1:=(ih k (h2 k (by simp))).1 1 [] (by omega) (by omega) (ar8 1)
            rw [hl] at hr1
            have hh:isT (wE d k++[]) (mkS [41])=false:=aw9 hr1 (show vW (wE d k++[]) by rw [List.append_nil];exact hv)
            cases hwk:wE d k with
            | nil=>exact absurd hwk hne
            | cons w l=>rw [hwk] at hh;exact hh
        have:=Rd.call (w:=⟨1,e.name⟩) (v:=pL) rfl rfl hA
        rw [← he] at this
        simpa using this
      rw [if_neg c3]
      rcases xH i1 with g | g | g
      · omega
      · rw [if_pos g.1]
        obtain ⟨a,ha⟩:=i7 g.1
        have hk:kid e 0=a:=by unfold kid;rw [ha];rfl
        have hnm:=i5 (by omega)
        have hr5:=(ih a (h2 a (by rw [ha];simp))).1 5 r (by omega) (by omega) ⟨λm g1 g2=>by omega,hr⟩
        rw [hk,List.cons_append]
        rcases g.1 with g1 | g1
        · have he:e=⟨11,0,mkS [],[a]⟩:=by
            cases e
            simp at g1 hn0 ha hnm ⊢
            exact ⟨g1,hn0,hnm,ha⟩
          have:=Rd.neg (w:=sgW e.op) (by rw [g1];rfl) hr5
          rw [← he] at this
          exact this
        · have he:e=⟨12,0,mkS [],[a]⟩:=by
            cases e
            simp at g1 hn0 ha hnm ⊢
            exact ⟨g1,hn0,hnm,ha⟩
          have:=Rd.at_ (w:=sgW e.op) (by rw [g1];rfl) hr5
          rw [← he] at this
          exact this
      · omega
    have UC:lvI e.op≤4→∀ ws e' r,qF (lvI e.op+1) ws→Rd (.L (lvI e.op) e ws e' r)→Rd (.E (lvI e.op) (wE (d+1) e++ws) e' r):=by
      intro h4 ws e' r hs hL
      rcases xH i1 with g | g | g
      · omega
      · omega
      obtain ⟨a,b,ha⟩:=i8 g.1
      have hk:kid e 0=a:=by unfold kid;rw [ha];rfl
      have hk1:kid e 1=b:=by unfold kid;rw [ha];rfl
      have hnm:=i5 (by omega)
      have hn0 : e.n_ = 0 := by rcases i3 with h | h
                                · omega
                                · exact h
      have he:e=⟨e.op,0,mkS [],[a,b]⟩:=by
        cases e
        simp at hn0 ha hnm ⊢
        exact ⟨hn0,hnm,ha⟩
      obtain ⟨s1,s2,s3⟩:=bn4 g.1
      have hb:=(ih b (h2 b (by rw [ha];simp))).1 (lvI e.op+1) ws (by omega) (by omega) hs
      have eb:decide (lvI b.op<lvI e.op+1)=decide (lvI b.op≤lvI e.op):=by rw [decide_eq_decide];omega
      rw [eb] at hb
      have hstep:Rd (.L (lvI e.op) a (sgW e.op::(brW (decide (lvI b.op≤lvI e.op)) (wE d b)++ws)) e' r):=by
        refine .step (by rw [s1];omega) hb ?_
        rw [s1,← he]
        exact hL
      have hA:=(ih a (h2 a (by rw [ha];simp))).2 (lvI e.op) (sgW e.op::(brW (decide (lvI b.op≤lvI e.op)) (wE d b)++ws)) e' r g.2 ⟨λm g1 g2=>show opW m (sgW e.op)=0 from s2 m (by omega) g2,decide_eq_false s3⟩ hstep
      rw [wE,if_neg (by omega),if_neg (by omega),if_neg (by omega),if_neg (by omega),hk,hk1]
      simpa using hA
    have UE:∀ need r,1≤need→need≤5→need≤lvI e.op→qF need r→Rd (.E need (wE (d+1) e++r) e r):=by
      intro need r n1 n2 n3 hs
      by_cases h5:5≤lvI e.op
      · exact ax8 (hi:=5) (lo:=need) (5 - need).toNat (by omega) n1 (by omega) (U5 h5 r hs.2) λm g1 g2=>hs.1 m g1 (by omega)
      · have := UC (by omega) r e r (ah8 hs (by omega)) (.stop (hs.1 _ n3 (by omega)))
        exact ax8 (hi:=lvI e.op) (lo:=need) (lvI e.op - need).toNat (by omega) n1 (by omega) this λm g1 g2=>hs.1 m g1 (by omega)
    have BE:∀ need r,1≤need→need≤5→qF need r→Rd (.E need (brW true (wE (d+1) e)++r) e r):=by
      intro need r n1 n2 hs
      have:=Rd.par (w:=pL) rfl (UE 1 (pR::r) (by omega) (by omega) hlv1 (yC 1 r)) rfl
      refine ax8 (hi:=5) (lo:=need) (5 - need).toNat (by omega) n1 (by omega) ?_ λm g1 g2=>hs.1 m g1 (by omega)
      simpa [brW] using this
    have CE:zj (d+1) e:=by
      intro need r n1 n2 hs
      by_cases hc:lvI e.op<need
      · rw [decide_eq_true hc];exact BE need r n1 n2 hs
      · rw [decide_eq_false hc];exact UE need r n1 n2 (by omega) hs
    refine ⟨CE,λlv ws e' r hlv hs hL=>?_⟩
    by_cases hc:lvI e.op=lv
    · subst hc
      rw [decide_eq_false (by omega)]
      exact UC (by omega) ws e' r hs hL
    · have eb : decide (lvI e.op < lv) = decide (lvI e.op < lv + 1) := by rw [decide_eq_decide]; omega
      rw [eb]
      exact .up hlv (CE (lv+1) ws (by omega) (by omega) hs) hL
end Prg
end Go.Wk
namespace Go.Wk
open Go
namespace Prg
set_option maxRecDepth 10000
def Dr {A:Type} (o:Option A) (Q:A→Prop):Prop:=∃ a,o=some a∧Q a
theorem Dr.some {A:Type} {a:A} {Q:A→Prop} (h:Q a):Dr (some a) Q:=⟨a,rfl,h⟩
theorem Dr.bind {A B:Type} {o:Option A} {f:A→Option B} {P:A→Prop} {Q:B→Prop} (h:Dr o P) (k:∀ a,P a→Dr (f a) Q):Dr (Option.bind o f) Q:=by
 obtain ⟨a,h1,h2⟩:=h
 obtain ⟨b,h3,h4⟩:=k a h2
 exact ⟨b,fS h1 h3,h4⟩
theorem Dr.ite {A:Type} {c:Bool} {x y:Option A} {Q:A→Prop} (h1:c=true→Dr x Q) (h2:c=false→Dr y Q):Dr (if c=true then x else y) Q:=by
 cases c
 ·exact h2 rfl
 ·exact h1 rfl
theorem Dr.mono {A:Type} {o:Option A} {P Q:A→Prop} (h:Dr o P) (k:∀ a,P a→Q a):Dr o Q:=by
 obtain ⟨a,h1,h2⟩:=h
 exact ⟨a,h1,k a h2⟩
theorem Dr.get {A:Type} {xs:List A} {i:Int} (h0:0≤i) (h1:i<(xs.length:Int)):Dr (fT xs i) (λx=>x∈xs):=by
 obtain ⟨x,hx,_,hm⟩:=qv h0 h1
 exact ⟨x,hx,hm⟩
theorem Dr.app {A:Type} {xs ys:List A} (h:xs.length+ys.length≤2147483648):Dr (fr xs ys) (λl=>l=xs++ys):=⟨_,jM h,rfl⟩
theorem Dr.forN {S:Type} {body:Int→S→Option (S ⊕ Empty)} {B:Type} {f:S ⊕ Empty→Option B} {Q:B→Prop} (I:Int→S→Prop) {k:Nat} {s:S} (h0:I 0 s)
  (h:∀ j s,0≤j→j<(k:Int)→I j s→Dr (body j s) (λr=>∀ t,r=.inl t→I (j+1) t)) (hf:∀ s,I k s→Dr (f (.inl s)) Q):Dr ((forN body k 0 s).bind f) Q:=by
 rcases yW (body:=body) (k:=k) (i:=0) (s:=s) I (λ_=>False) h0 (λj s h1 h2 hs=>by
  obtain ⟨r,h3,h4⟩:=h j s h1 (by simpa using h2) hs
  cases r with
  | inl t=>exact .inl ⟨t,h3,h4 t rfl⟩
  | inr e=>exact e.elim) with ⟨t,h3,h4⟩ | ⟨e,_,h4⟩
 ·obtain ⟨b, h5, h6⟩ := hf t (by simpa using h4)
  exact ⟨b,fS h3 h5,h6⟩
 ·exact h4.elim
theorem Dr.loop {S X:Type} {body:S→Option (S ⊕ X)} {Q:X→Prop} (I:S→Prop) (μ:S→Nat):∀ {s:S},I s→(∀ s,I s→Dr (body s) (λr=>(∀ t,r=.inl t→I t∧μ t<μ s)∧∀ x,r=.inr x→Q x))→Dr (fy body s) Q:=by
 intro s hs h
 generalize hn:μ s=n
 induction n using Nat.strongRecOn generalizing s with
 | _ n ih =>
  obtain ⟨r,h1,h2,h3⟩:=h s hs
  cases r with
  | inl t =>
   have h4:=h2 t rfl
   obtain ⟨x,h5,h6⟩:=ih (μ t) (by omega) h4.1 rfl
   exact ⟨x,by rw [iu h1];exact h5,h6⟩
  | inr x=>exact ⟨x,fx h1,h3 x rfl⟩
theorem bh6 (a b:Int) (ha:0≤a∧a<1073741824) (hb:0≤b∧b<1073741824):0≤pb IntKind.i64 (· ^^^ ·) a b:=by
 unfold pb
 have h:(BitVec.ofInt 64 a ^^^ BitVec.ofInt 64 b).toNat<2 ^ 30:=by
  rw [BitVec.toNat_xor]
  refine Nat.xor_lt_two_pow ?_ ?_<;>rw [BitVec.toNat_ofInt]<;>omega
 show 0≤IntKind.i64.wrap ((BitVec.ofInt 64 a ^^^ BitVec.ofInt 64 b).toNat:Int)
 rw [IntKind.wrap_i64]
 omega
theorem qw {a n:Int} (ha:0≤a) (hn:0<n):0≤a.tmod n∧a.tmod n<n:=⟨Int.tmod_nonneg _ ha,Int.tmod_lt_of_pos _ hn⟩
theorem xi (b:List UInt8) (hb:b.length≤2000) (p n:Int) (h0:0≤p) (h1:p≤1000000):∃ v,fb ⟨b,p⟩ n=some (v,⟨b,p+1⟩)∧0≤v∧(0<n→v<n):=by
 unfold fb
 have e1:w64 (p+1)=p+1:=gu (by omega) (by omega)
 have e2:w64 (p+1 - 1)=p:=by rw [gu (by omega) (by omega)];omega
 simp only [e1,e2]
 by_cases hn:n<1
 ·simp only [hn,decide_true,if_true,obS]
  exact ⟨0,rfl,by omega,by omega⟩
 by_cases hl:b.length=0
 ·simp only [hn,hl,decide_false,Bool.false_eq_true,if_false,obS,Int.natCast_zero,decide_true,if_true]
  exact ⟨0,rfl,by omega,by omega⟩
 have hbl:¬ ((b.length:Int)=0):=by omega
 have hn0:¬ n=0:=by omega
 simp only [hn,hbl,decide_false,Bool.false_eq_true,if_false,obS]
 by_cases hk:p<(b.length:Int)
 ·obtain ⟨x,hx,_⟩:=qv (xs:=b) h0 hk
  simp only [hk,decide_true,if_true,hx,obS,zA,hn0,if_false]
  have:=qw (a:=((x.toNat:Nat):Int)) (n:=n) (by omega) (by omega)
  exact ⟨_,rfl,this.1,λ_=>this.2⟩
 ·have hpl : (0 : Int) < (b.length : Int) := by omega
  have e3:w64 (w64 (p*7)+3)=p*7+3:=by rw [gu (n:=p*7) (by omega) (by omega),gu (by omega) (by omega)]
  obtain ⟨x,hx,_⟩:=qv (xs:=b) (qw h0 hpl).1 (qw h0 hpl).2
  obtain ⟨y,hy,_⟩:=qv (xs:=b) (qw (a:=p*7+3) (by omega) hpl).1 (qw (a:=p*7+3) (by omega) hpl).2
  have hd:0≤p.tdiv (b.length:Int)∧p.tdiv (b.length:Int)≤p:=⟨Int.tdiv_nonneg h0 (by omega),Int.tdiv_le_self _ h0⟩
  have e4:w64 (p.tdiv (b.length:Int))=p.tdiv (b.length:Int):=gu (by omega) (by omega)
  have hx8:(x.toNat:Int)<256:=by have:=x.toNat_lt;omega
  have hy8:(y.toNat:Int)<256:=by have:=y.toNat_lt;omega
  have hz:∃ z:Int,w64 (w64 (w64 (w64 ((x.toNat:Int)*131)+w64 ((y.toNat:Int)*1117))+w64 (p*29))+w64 (p.tdiv (b.length:Int)*53))=z∧0≤z∧z<1073741824:=by
   refine ⟨_,rfl,?_⟩
   rw [gu (n := (x.toNat : Int) * 131) (by omega) (by omega), gu (n := (y.toNat : Int) * 1117) (by omega) (by omega), gu (n := p * 29) (by omega) (by omega),
    gu (n:=p.tdiv (b.length:Int)*53) (by omega) (by omega),gu (n:=(x.toNat:Int)*131+(y.toNat:Int)*1117) (by omega) (by omega),
    gu (n:=(x.toNat:Int)*131+(y.toNat:Int)*1117+p*29) (by omega) (by omega),gu (by omega) (by omega)]
   omega
  obtain ⟨z,hz,hz0,hz1⟩:=hz
  have hq:0≤z.tdiv 64∧z.tdiv 64≤z:=⟨Int.tdiv_nonneg hz0 (by omega),Int.tdiv_le_self _ hz0⟩
  have e5:w64 (z.tdiv 64)=z.tdiv 64:=gu (by omega) (by omega)
  simp only [hk,decide_false,Bool.false_eq_true,if_false,zA,bb5,hbl,hn0,obS,e3,hx,hy,e4,hz,e5]
  have:=qw (bh6 z (z.tdiv 64) ⟨hz0,hz1⟩ ⟨hq.1,by omega⟩) (show 0<n by omega)
  exact ⟨_,rfl,this.1,λ_=>this.2⟩
theorem be5 (b:List UInt8) (hb:b.length≤2000) (p:Int) (l:List Int) (hl:0<l.length) (h0:0≤p) (h1:p≤1000000):∃ v,gH ⟨b,p⟩ l=some (v,⟨b,p+1⟩)∧v∈l:=by
 obtain ⟨v,h2,h3,h4⟩:=xi b hb p (l.length:Int) h0 h1
 obtain ⟨x,hx,_,hm⟩:=qv (xs:=l) h3 (h4 (by omega))
 exact ⟨x,fS h2 (fS hx rfl),hm⟩
section
variable {b:List UInt8} (hb:b.length≤2000) {p:Int} {B:Type} {Q:B→Prop}
theorem pk {n:Int} {f:Int × fF→Option B} (hb:b.length≤2000) (h0:0≤p) (h1:p≤1000000) (k:∀ v,0≤v→(0<n→v<n)→Dr (f (v,⟨b,p+1⟩)) Q):Dr ((fb ⟨b,p⟩ n).bind f) Q:=by
 obtain ⟨v,h2,h3,h4⟩:=xi b hb p n h0 h1
 obtain ⟨c,h5,h6⟩:=k v h3 h4
 exact ⟨c,fS h2 h5,h6⟩
theorem nm {l:List Int} {f:Int × fF→Option B} (hb:b.length≤2000) (hl:0<l.length) (h0:0≤p) (h1:p≤1000000) (k:∀ v,v∈l→Dr (f (v,⟨b,p+1⟩)) Q):Dr ((gH ⟨b,p⟩ l).bind f) Q:=by
 obtain ⟨v,h2,h3⟩:=be5 b hb p l hl h0 h1
 obtain ⟨c,h5,h6⟩:=k v h3
 exact ⟨c,fS h2 h5,h6⟩
theorem gtx {A:Type} {xs:List A} {i:Int} {f:A→Option B} (h0:0≤i) (h1:i<(xs.length:Int)) (k:∀ x,x∈xs→Dr (f x) Q):Dr ((fT xs i).bind f) Q:=Dr.bind (Dr.get h0 h1) k
theorem ap {A:Type} {xs ys:List A} {f:List A→Option B} (h:xs.length+ys.length≤2147483648) (k:Dr (f (xs++ys)) Q):Dr ((fr xs ys).bind f) Q:=Dr.bind (Dr.app h) λ_ e=>by subst e;exact k
def DrA {A:Type} (o:Option (A × fF)) (b:List UInt8) (lo hi:Int) (P:A→Prop):Prop:=Dr o (λr=>(r.2.b=b∧lo≤r.2.p∧r.2.p≤hi)∧P r.1)
theorem DrA.bind {A:Type} {o:Option (A × fF)} {lo hi:Int} {P:A→Prop} {f:A × fF→Option B} (h:DrA o b lo hi P) (k:∀ v q,lo≤q→q≤hi→P v→Dr (f (v,⟨b,q⟩)) Q):Dr (Option.bind o f) Q:=by
 obtain ⟨⟨v,⟨b',q⟩⟩,h1,⟨h2,h3,h4⟩,h5⟩:=h
 simp only at h2 h3 h4 h5
 subst h2
 obtain ⟨c,h6,h7⟩:=k v q h3 h4 h5
 exact ⟨c,fS h1 h6,h7⟩
theorem DrA.some {A:Type} {v:A} {q lo hi:Int} {P:A→Prop} (h1:lo≤q) (h2:q≤hi) (h3:P v):DrA (some (v,(⟨b,q⟩:fF))) b lo hi P:=⟨_,rfl,⟨rfl,h1,h2⟩,h3⟩
end
theorem au8 (code:List UInt8):∃ b,nJ code=Option.some ⟨b,0⟩∧b.length≤2000:=by
 unfold nJ
 by_cases h:(2000:Int)<(code.length:Int)
 ·simp only [h,decide_true,if_true]
  have:ud code 0 2000=Option.some (code.take 2000):=by
   unfold ud
   rw [if_pos (by omega)]
   simp
  rw [this]
  exact ⟨_,rfl,by rw [List.length_take];omega⟩
 ·simp only [h,decide_false,Bool.false_eq_true,if_false,obS]
  exact ⟨_,rfl,by omega⟩
theorem DrF {A:Type} {b:List UInt8} {lo hi:Int} {P:A→Prop} {r:A × fF} (h1:r.2.b=b) (h2:lo≤r.2.p) (h3:r.2.p≤hi) (h4:P r.1):Dr (some r) (λr=>(r.2.b=b∧lo≤r.2.p∧r.2.p≤hi)∧P r.1):=⟨r,rfl,⟨h1,h2,h3⟩,h4⟩
theorem xX:∀ {d:Nat} {e:eu},gj d e=true→gj (d+1) e=true
 | 0,e,h=>by rw [gj] at h;cases h
 | d+1,e,h=>by
  obtain ⟨h1,h2⟩:=ka h
  rw [gj,Bool.and_eq_true,List.all_eq_true]
  exact ⟨h1,λk hk=>xX (h2 k hk)⟩
theorem ba9 {d e2:Nat} {e:eu} (h:d≤e2) (hf:gj d e=true):gj e2 e=true:=by
 obtain ⟨k,rfl⟩:∃ k,e2=d+k:=⟨e2 - d,by omega⟩
 clear h
 induction k with
 | zero=>exact hf
 | succ k ih=>exact xX ih
theorem am1 {n:Int} (h:0≤n∧n≤255):gj 1 ⟨1,n,mkS [],[]⟩=true∧iT ⟨1,n,mkS [],[]⟩=1:=by
 constructor
 ·rw [gj]
  have:inB n 0 255=true:=kP.2 h
  simp [oP,mh,kP,h]
 ·rw [kq];show 1+iz []=1;rw [j6]
theorem ag9 {s:Str} (h:iL s=true):gj 1 ⟨2,0,s,[]⟩=true∧iT ⟨2,0,s,[]⟩=1:=by
 constructor
 ·rw [gj]
  simp [oP,mh,kP,h]
 ·rw [kq];show 1+iz []=1;rw [j6]
theorem bm1 (b:List UInt8) (hb:b.length≤2000) (p:Int) (l:List Str) (hl:0<l.length) (h0:0≤p) (h1:p≤1000000):∃ v,iE ⟨b,p⟩ l=some (v,⟨b,p+1⟩)∧v∈l:=by
 obtain ⟨v,h2,h3,h4⟩:=xi b hb p (l.length:Int) h0 h1
 obtain ⟨x,hx,_,hm⟩:=qv (xs:=l) h3 (h4 (by omega))
 exact ⟨x,fS h2 (fS hx rfl),hm⟩
theorem ofx {b:List UInt8} {p:Int} {B:Type} {Q:B→Prop} {l:List Str} {f:Str × fF→Option B} (hb:b.length≤2000) (hl:0<l.length) (h0:0≤p) (h1:p≤1000000) (k:∀ v,v∈l→Dr (f (v,⟨b,p+1⟩)) Q):Dr ((iE ⟨b,p⟩ l).bind f) Q:=by
 obtain ⟨v,h2,h3⟩:=bm1 b hb p l hl h0 h1
 obtain ⟨c,h5,h6⟩:=k v h3
 exact ⟨c,fS h2 h5,h6⟩
theorem ad4 {b:List UInt8} (hb:b.length≤2000) {p:Int} (h0:0≤p) (h1:p≤900000) {names:List Str} (hn:∀ s∈names,iL s=true):DrA (np ⟨b,p⟩ names) b p (p+2) (λe=>gj 1 e=true∧iT e=1):=by
 unfold np
 have rest:∀ (q:Int) (c:Bool),p≤q→q≤p+1→(c=false→names≠[])→DrA (if c then (gH (⟨b,q⟩:fF) ([0,1,2,3,5,7,15,16,100,255]:List Int)).bind λuA=>some ((⟨1,uA.1,(mkS []),[]⟩:eu),(⟨b,uA.2.p⟩:fF)) else (iE (⟨b,q⟩:fF) names).bind λuB=>some ((⟨2,0,uB.1,[]⟩:eu),(⟨b,uB.2.p⟩:fF))) b p (p+2) (λe=>gj 1 e=true∧iT e=1):=by
  intro q c hq1 hq2 hc
  cases c with
  | true =>
   refine nm hb (by decide) (by omega) (by omega) λv hv=>DrF (lo:=p) (hi:=p+2) (P:=λe=>gj 1 e=true∧iT e=1) rfl (by dsimp only;omega) (by dsimp only;omega) (am1 (n:=v) ?_)
   simp only [List.mem_cons,List.not_mem_nil,or_false] at hv
   omega
  | false =>
   exact ofx hb (List.length_pos_iff.2 (hc rfl)) (by omega) (by omega) λv hv=>DrF (lo:=p) (hi:=p+2) (P:=λe=>gj 1 e=true∧iT e=1) rfl (by dsimp only;omega) (by dsimp only;omega) (ag9 (hn v hv))
 by_cases hz:names=[]
 ·subst hz
  exact rest p true (by omega) (by omega) (λh=>by cases h)
 ·have e0 : decide ((names.length : Int) = 0) = false := by have := List.length_pos_iff.2 hz; simp; omega
  rw [e0]
  refine Dr.bind (P:=λs=>p≤s.1∧s.1≤p+1) ?_ λs hs=>rest s.1 s.2 hs.1 hs.2 λ_=>hz
  exact pk hb (by omega) (by omega) λv g1 g2=>Dr.some ⟨by dsimp only;omega,by dsimp only;omega⟩
theorem ak5 {op:Int} {d:Nat} {a:eu} (h:op=11∨op=12) (ha:gj d a=true):gj (d+1) ⟨op,0,mkS [],[a]⟩=true:=by
 rw [gj]
 rcases h with rfl | rfl<;>simp [oP,mh,kP,ha]
theorem as7 {op:Int} {d:Nat} {a c:eu} (h:3≤op∧op≤10) (ha:gj d a=true) (hc:gj d c=true):gj (d+1) ⟨op,0,mkS [],[a,c]⟩=true:=by
 have:op=3∨op=4∨op=5∨op=6∨op=7∨op=8∨op=9∨op=10:=by omega
 rw [gj]
 rcases this with rfl | rfl | rfl | rfl | rfl | rfl | rfl | rfl<;>simp [oP,mh,kP,ha,hc]
theorem ay5 (op n:Int) (s:Str) (a:eu):iT ⟨op,n,s,[a]⟩=1+iT a:=by rw [kq];show 1+iz [a]=_;rw [ig,j6];omega
theorem ba5 (op n:Int) (s:Str) (a c:eu):iT ⟨op,n,s,[a,c]⟩=1+iT a+iT c:=by rw [kq];show 1+iz [a,c]=_;rw [ig,ig,j6];omega
theorem ac4 {b:List UInt8} (hb:b.length≤2000) {names:List Str} (hn:∀ s∈names,iL s=true):∀ (d:Nat) (p:Int),d≤7→0≤p→p+4 ^ (d+1)≤900000→DrA (jT ⟨b,p⟩ names ((d+1:Nat):Int)) b p (p+4 ^ (d+1)) (λe=>gj (d+1) e=true∧iT e+1≤2 ^ (d+1)):=by
 intro d
 induction d with
 | zero =>
  intro p hd h0 h1
  rw [jT]
  have e1:decide (((0+1:Nat):Int)<2)=true:=rfl
  rw [e1]
  simp only [if_true,obS]
  exact DrA.bind (ad4 hb h0 (by simp at h1;omega) hn) λv q g1 g2 g3=>DrF (lo:=p) (hi:=p+4 ^ (0+1)) (P:=λe=>gj (0+1) e=true∧iT e+1≤2 ^ (0+1)) rfl (by dsimp only;omega) (by dsimp only;simp;omega) ⟨g3.1,by rw [g3.2];decide⟩
 | succ d ih =>
  intro p hd h0 h1
  have hpow:(4:Int) ^ (d+1+1)=4*4 ^ (d+1):=by rw [Int.pow_succ];omega
  have hpow2:(2:Nat) ^ (d+1+1)=2*2 ^ (d+1):=by rw [Nat.pow_succ];omega
  have hp1:(4:Int)≤4 ^ (d+1):=by
   have:(4:Int) ^ (d+1)=((4 ^ (d+1):Nat):Int):=by push_cast;rfl
   rw [this]
   have:4 ^ 1≤4 ^ (d+1):=Nat.pow_le_pow_right (by decide) (by omega)
   omega
  have hp2:2≤2 ^ (d+1):=by
   have:2 ^ 1≤2 ^ (d+1):=Nat.pow_le_pow_right (by decide) (by omega)
   omega
  rw [hpow] at h1 ⊢
  rw [hpow2]
  generalize hP:(4:Int) ^ (d+1)=P at *
  rw [jT]
  have e1:decide (((d+1+1:Nat):Int)<2)=false:=by simp;omega
  have ew:w64 (((d+1+1:Nat):Int) - 1)=((d+1:Nat):Int):=by rw [gu (by omega) (by omega)];omega
  rw [e1]
  simp only [Bool.false_eq_true,if_false,ew]
  refine Dr.bind (P:=λs=>s.1=p+1) (pk hb h0 (by omega) λv _ _=>Dr.some rfl) λs hs=>?_
  refine Dr.ite (λ_=>?_) (λ_=>?_)
  ·rw [hs]
   exact DrA.bind (ad4 hb (by omega) (by omega) hn) λv q g1 g2 g3=>DrF (lo:=p) (hi:=p+4*P) (P:=λe=>gj (d+1+1) e=true∧iT e+1≤2*2 ^ (d+1)) rfl (by dsimp only;omega) (by dsimp only;omega) ⟨ba9 (by omega) g3.1,by rw [g3.2];omega⟩
  rw [hs]
  refine pk hb (by omega) (by omega) λv _ _=>?_
  dsimp only
  refine Dr.ite (λ_=>?_) (λ_=>?_)
  ·refine nm hb (by decide) (by omega) (by omega) fun op hop => ?_
   dsimp only
   have hop2:op=11∨op=12:=by
    simp only [List.mem_cons,List.not_mem_nil,or_false] at hop
    omega
   refine DrA.bind (ih (p+1+1+1) (by omega) (by omega) (by omega)) λe q g1 g2 g3=>DrF (lo:=p) (hi:=p+4*P) (P:=λe=>gj (d+1+1) e=true∧iT e+1≤2*2 ^ (d+1)) rfl (by dsimp only;omega) (by dsimp only;omega) ⟨ak5 hop2 g3.1,by rw [ay5];dsimp only;omega⟩
  ·refine nm hb (by decide) (by omega) (by omega) fun op hop => ?_
   dsimp only
   have hop2:3≤op∧op≤10:=by
    simp only [List.mem_cons,List.not_mem_nil,or_false] at hop
    omega
   refine DrA.bind (ih (p+1+1+1) (by omega) (by omega) (by omega)) λe q g1 g2 g3=>?_
   dsimp only
   refine DrA.bind (ih q (by omega) (by omega) (by omega)) λe2 q2 k1 k2 k3=>DrF (lo:=p) (hi:=p+4*P) (P:=λe=>gj (d+1+1) e=true∧iT e+1≤2*2 ^ (d+1)) rfl (by dsimp only;omega) (by dsimp only;omega) ⟨as7 hop2 g3.1 k3.1,by rw [ba5];dsimp only;omega⟩
end Prg
end Go.Wk
namespace Go.Wk
open Go
namespace Prg
set_option maxRecDepth 10000
end Prg
end Go.Wk
namespace Go.Wk
open Go
namespace Prg
set_option maxRecDepth 10000
end Prg
end Go.Wk
namespace Go.Wk
open Go
namespace Prg
set_option maxRecDepth 10000
end Prg
end Go.Wk
namespace Go.Wk
open Go
namespace Prg
set_option maxRecDepth 10000
def nW (d:Nat) (e:eu) (need:Int):Nat:=(brW (decide (lvI e.op<need)) (wE d e)).length
theorem bk0 {d:Nat} {e:eu} (a b:Int):nW d e a≤nW d e b+2:=by
 unfold nW brW
 split<;>split<;>simp<;>omega
theorem bk5 {d:Nat} {e:eu} {a b:Int} (h:a≤b):nW d e a≤nW d e b:=by
 unfold nW brW
 by_cases h1:lvI e.op<a
 ·have h2 : lvI e.op < b := by omega
  simp [h1,h2]
 ·rw [if_neg (by simpa using h1)]
  split<;>simp<;>omega
theorem zc {d:Nat} {e:eu}:(wE d e).length≤nW d e 1:=by
 unfold nW brW;split<;>simp<;>omega
def bn2:Job→Prop
 | .E lv ws e r=>∀ d,gj d e=true→nW d e lv+r.length≤ws.length
 | .L lv x ws e r=>(lv=1∨lv=2∨lv=3∨lv=4)→∀ d,gj d e=true→(∃ d',gj d' x=true∧∀ k:Nat,nW d' x lv≤k→nW d e lv+r.length≤ws.length+k)
 | .A ws ks r=>∀ d,(∀ k∈ks,gj d k=true)→(aW (ks.map (wE d))).length+1+r.length≤ws.length
 | .M acc ws ks r=>∀ d,(∀ k∈ks,gj d k=true)→(∀ k∈acc,gj d k=true)∧(aW (ks.map (wE d))).length+1+r.length≤(aW (acc.map (wE d))).length+ws.length
theorem bi0 {lv:Int} (hl:lv=1∨lv=2∨lv=3∨lv=4) {w:ep} (h:opW lv w≠0):lvI (opW lv w)=lv∧3≤opW lv w∧opW lv w≤10:=by
 unfold opW at h ⊢
 rcases hl with rfl | rfl | rfl | rfl
 ·by_cases c:w.text=mkS [38]
  ·simp [c,lvI]
  ·simp [c] at h
 ·by_cases c:w.text=mkS [60]
  ·simp [c,lvI]
  ·by_cases c2:w.text=mkS [61]
   ·have a1 : (mkS [61] : Str) ≠ mkS [60] := by decide
    simp [c2,a1,lvI]
   ·simp [c,c2] at h
 ·by_cases c:w.text=mkS [43]
  ·simp [c,lvI]
  ·by_cases c2:w.text=mkS [45]
   ·have a1 : (mkS [45] : Str) ≠ mkS [43] := by decide
    simp [c2,a1,lvI]
   ·simp [c,c2] at h
 ·by_cases c:w.text=mkS [42]
  ·simp [c,lvI]
  ·by_cases c2:w.text=mkS [47]
   ·have a1 : (mkS [47] : Str) ≠ mkS [42] := by decide
    simp [c2,a1,lvI]
   ·by_cases c3:w.text=mkS [37]
    ·have a1 : (mkS [37] : Str) ≠ mkS [42] := by decide
     have a2:(mkS [37]:Str)≠mkS [47]:=by decide
     simp [c3,a1,a2,lvI]
    ·simp [c,c2,c3] at h
theorem ba7 {j:Job} (h:Rd j):bn2 j:=by
 induction h
 case neg w ws e r hw h ih =>
  intro d hf
  cases d with
  | zero=>rw [gj] at hf;cases hf
  | succ d =>
   have hk:=(ka hf).2 e (by simp)
   have:=ih d hk
   unfold nW at this ⊢
   have e1:decide (lvI (11:Int)<5)=false:=rfl
   show (brW (decide (lvI (11:Int)<5)) _).length+_≤_
   rw [e1,wE]
   simp [kid] at this ⊢
   simp [brW] at this ⊢
   omega
 case at_ w ws e r hw h ih =>
  intro d hf
  cases d with
  | zero=>rw [gj] at hf;cases hf
  | succ d =>
   have hk:=(ka hf).2 e (by simp)
   have:=ih d hk
   unfold nW at this ⊢
   have e1:decide (lvI (12:Int)<5)=false:=rfl
   show (brW (decide (lvI (12:Int)<5)) _).length+_≤_
   rw [e1,wE]
   simp [kid] at this ⊢
   simp [brW] at this ⊢
   omega
 case par w ws e v r hw h hv2 ih =>
  intro d hf
  have:=ih d hf
  have h2:=bk0 (d:=d) (e:=e) 5 1
  simp at this ⊢
  omega
 case num w r hw =>
  intro d hf
  cases d with
  | zero=>rw [gj] at hf;cases hf
  | succ d=>unfold nW;rw [wE];simp [lvI,brW];omega
 case var w r hw _ =>
  intro d hf
  cases d with
  | zero=>rw [gj] at hf;cases hf
  | succ d=>unfold nW;rw [wE];simp [lvI,brW];omega
 case call w v ws ks r hw _ h ih =>
  intro d hf
  cases d with
  | zero=>rw [gj] at hf;cases hf
  | succ d =>
   have:=ih d (ka hf).2
   unfold nW;rw [wE];simp [lvI,brW] at this ⊢;omega
 case up lv ws e ws' e' r hlv h1 h2 ih1 ih2 =>
  intro d hf
  obtain ⟨d',g1,g2⟩:=ih2 hlv d hf
  have g3:=ih1 d' g1
  have g4:=bk5 (d:=d') (e:=e) (show lv≤lv+1 by omega)
  have:=g2 (nW d' e lv) (Nat.le_refl _)
  omega
 case stop lv e ws ho =>
  intro _ d hf
  exact ⟨d,hf,λk hk=>by omega⟩
 case step lv e w ws f ws' e' r ho h1 h2 ih1 ih2 =>
  intro hlv d hf
  obtain ⟨d',g1,g2⟩:=ih2 hlv d hf
  obtain ⟨o1,o2⟩:=bi0 hlv ho
  cases d' with
  | zero=>rw [gj] at g1;cases g1
  | succ d' =>
   have hk:=(ka g1).2
   have he:=hk e (by simp)
   have hff:=hk f (by simp)
   have g3:=ih1 d' hff
   have hx:nW (d'+1) ⟨opW lv w,0,mkS [],[e,f]⟩ lv=nW d' e lv+1+nW d' f (lv+1):=by
    have eb:decide (lvI f.op≤lv)=decide (lvI f.op<lv+1):=by rw [decide_eq_decide];omega
    unfold nW
    rw [wE]
    dsimp only
    rw [o1,if_neg (by omega),if_neg (by omega),if_neg (by omega),if_neg (by omega),decide_eq_false (by omega)]
    show (brW (decide (lvI e.op<lv)) (wE d' e)++sgW _::brW (decide (lvI f.op≤lv)) (wE d' f)).length=_
    rw [eb]
    simp
    omega
   refine ⟨d',he,λk hk=>?_⟩
   have:=g2 (k+1+nW d' f (lv+1)) (by omega)
   simp
   omega
 case done v r hv2 =>
  intro d hf
  simp [aW];omega
 case first ws e ws' ks r ht h1 h2 ih1 ih2 =>
  intro d hf
  obtain ⟨g1,g2⟩:=ih2 d hf
  have g3:=ih1 d (g1 e (by simp))
  have g4:=zc (d:=d) (e:=e)
  have ha:aW ([e].map (wE d))=wE d e:=by simp [aW]
  rw [ha] at g2
  omega
 case last acc v r hv2 =>
  intro d hf
  exact ⟨hf,by simp;omega⟩
 case more acc v ws e ws' ks r hv2 h1 h2 ih1 ih2 =>
  intro d hf
  obtain ⟨g1,g2⟩:=ih2 d hf
  have g3:=ih1 d (g1 e (by simp))
  have g4:=zc (d:=d) (e:=e)
  refine ⟨λk hk=>g1 k (by simp [hk]),?_⟩
  rw [List.map_append,List.map_cons,List.map_nil,sK] at g2
  split at g2
  ·rename_i hz
   rw [hz]
   show _≤0+(ws.length+1)
   omega
  ·simp at g2 ⊢;omega
end Prg
end Go.Wk
namespace Go.Wk
open Go
namespace Prg
set_option maxRecDepth 10000
theorem ac5 {s:Str} {c:UInt8} (hs:s.b=[c]) {n:Int} (h0:0≤n) (h1:n≤5000):∃ t,lX s n=some t∧(t.b.length:Int)=n∧∀ x∈t.b,x=c:=by
 have h:Dr (lX s n) (λt=>(t.b.length:Int)=n∧∀ x∈t.b,x=c):=by
  unfold lX
  refine Dr.bind (P:=λt:Str=>(t.b.length:Int)=n∧∀ x∈t.b,x=c) ?_ λt ht=>Dr.some ht
  refine Dr.bind (P:=λt:Str=>(t.b.length:Int)=n∧∀ x∈t.b,x=c) ?_ λt ht=>Dr.some ht
  refine Dr.loop (I:=λst:Str × Int × Str=>0≤st.2.1∧(st.2.2.b.length:Int)+st.2.1*st.1.b.length=n∧1≤st.1.b.length∧st.1.b.length≤10000∧(0<st.2.1→(st.1.b.length:Int)≤n)∧(∀ x∈st.1.b,x=c)∧∀ x∈st.2.2.b,x=c) (λst=>st.2.1.toNat) ⟨h0,by rw [hs];simp [mkS],by rw [hs];simp,by rw [hs];simp,λh=>by have h:0<n:=h;show ((s.b.length:Nat):Int)≤n;rw [hs];simp;omega,λx hx=>by rw [hs] at hx;simpa using hx,λx hx=>by simp [mkS] at hx⟩ ?_
  rintro ⟨x,m,r⟩ ⟨i1,i2,i3,i4,i5,i6,i7⟩
  dsimp only at i1 i2 i3 i4 i5 i6 i7 ⊢
  by_cases hm:0<m
  ·rw [if_pos (by simpa using hm)]
   have hxn:=i5 hm
   obtain ⟨k,rfl⟩:∃ k:Nat,m=k:=⟨m.toNat,by omega⟩
   have hrl:(r.b.length:Int)≤n:=by
    have:(0:Int)≤(k:Int)*x.b.length:=Int.mul_nonneg (by omega) (by omega)
    omega
   have e1:((k:Int).tmod 2)=((k % 2:Nat):Int):=by rw [Int.tmod_eq_emod_of_nonneg (by omega)];omega
   have e2:w64 ((k:Int).tdiv 2)=((k / 2:Nat):Int):=by
    have:(k:Int).tdiv 2=((k / 2:Nat):Int):=by rw [Int.tdiv_eq_ediv_of_nonneg (by omega)];omega
    have hk:(k:Int)≤n:=by
     have h2:(k:Int)*1≤(k:Int)*x.b.length:=Int.mul_le_mul_of_nonneg_left (by omega) (by omega)
     omega
    rw [this,gu (by omega) (by omega)]
   have step:∀ r':Str,(r'.b.length:Int)=r.b.length+((k % 2:Nat):Int)*x.b.length→(∀ y∈r'.b,y=c)→Dr ((iB x x).bind λuA=>(some (.inl (uA,w64 ((k:Int).tdiv 2),r')):Option ((Str × Int × Str) ⊕ Str))) (λq=>(∀ t,q=.inl t→(0≤t.2.1∧(t.2.2.b.length:Int)+t.2.1*t.1.b.length=n∧1≤t.1.b.length∧t.1.b.length≤10000∧(0<t.2.1→(t.1.b.length:Int)≤n)∧(∀ x∈t.1.b,x=c)∧∀ x∈t.2.2.b,x=c)∧t.2.1.toNat<k)∧∀ t,q=.inr t→((t.b.length:Int)=n∧∀ x∈t.b,x=c)):=by
    intro r' hr1 hr2
    obtain ⟨y,y1,y2⟩:=jd (s:=x) (t:=x) (by omega)
    have hy:=congrArg List.length y2
    rw [List.length_append] at hy
    rw [y1,obS,e2]
    refine Dr.some (And.intro (λt ht=>?_) λt ht=>by cases ht)
    simp only [Sum.inl.injEq] at ht
    subst ht
    have hsum:(r'.b.length:Int)+((k / 2:Nat):Int)*y.b.length=n:=by
     rw [hr1,hy]
     have:(k:Int)=((k % 2:Nat):Int)+2*((k / 2:Nat):Int):=by omega
     rw [this] at i2
     rw [Int.add_mul] at i2
     push_cast at i2 ⊢
     rw [Int.mul_add]
     rw [show (2:Int)*((k:Int) / 2)*(x.b.length:Int)=(k:Int) / 2*(x.b.length:Int)+(k:Int) / 2*(x.b.length:Int) by rw [Int.mul_assoc,Int.two_mul]] at i2
     omega
    refine ⟨⟨by dsimp only;omega,hsum,by dsimp only;omega,by dsimp only;omega,λh=>?_,λz hz=>?_,hr2⟩,by dsimp only;omega⟩
    ·dsimp only at h ⊢
     have h2:1*(y.b.length:Int)≤((k / 2:Nat):Int)*y.b.length:=Int.mul_le_mul_of_nonneg_right (by omega) (by omega)
     omega
    ·dsimp only at hz
     rw [y2] at hz
     rcases List.mem_append.1 hz with h | h<;>exact i6 z h
   rw [e1]
   by_cases hodd:((k % 2:Nat):Int)=1
   ·rw [if_pos (by simpa using hodd)]
    obtain ⟨y,y1,y2⟩:=jd (s:=r) (t:=x) (by omega)
    rw [y1]
    simp only [obS]
    refine step y (by rw [y2,hodd];simp) λz hz=>?_
    rw [y2] at hz
    rcases List.mem_append.1 hz with h | h
    ·exact i7 z h
    ·exact i6 z h
   ·rw [if_neg (by simpa using hodd)]
    simp only [obS]
    refine step r ?_ i7
    have:((k % 2:Nat):Int)=0:=by omega
    rw [this];simp
  ·rw [if_neg (by simpa using hm)]
   refine Dr.some (And.intro (λt ht=>by cases ht) λt ht=>?_)
   simp only [Sum.inr.injEq] at ht
   subst ht
   have:m=0:=by omega
   subst this
   simp at i2
   exact ⟨i2,i7⟩
 exact h
end Prg
end Go.Wk
namespace Go.Wk
open Go
namespace Prg
set_option maxRecDepth 10000
theorem qu {l:List Str} {n:Nat} (h:l.all (λs=>decide (s.b.length≤n))=true) {s:Str} (hs:s∈l):s.b.length≤n:=by
 simpa using List.all_eq_true.1 h s hs
theorem ag2 {b:List UInt8} (hb:b.length≤2000) {p:Int} (h0:0≤p) (h1:p≤900000):DrA (nD ⟨b,p⟩) b p (p+2) (λs=>s.b.length≤4):=by
 unfold nD
 refine pk hb h0 (by omega) λv _ _=>?_
 dsimp only
 refine Dr.ite (λ_=>ofx hb (by decide) (by omega) (by omega) λs hs=>DrF (lo:=p) (hi:=p+2) (P:=λs:Str=>s.b.length≤4) rfl (by dsimp only;omega) (by dsimp only;omega) (qu (by decide) hs)) λ_=>?_
 refine Dr.ite (λ_=>nm hb (by decide) (by omega) (by omega) λn hn=>?_) λ_=>?_
 ·obtain ⟨k,hk,rfl⟩:∃ k:Nat,k≤255∧n=(k:Int):=by
   simp only [List.mem_cons,List.not_mem_nil,or_false] at hn
   exact ⟨n.toNat,by omega,by omega⟩
  dsimp only
  rw [xP (by omega),obS]
  exact DrF (lo:=p) (hi:=p+2) (P:=λs:Str=>s.b.length≤4) rfl (by dsimp only;omega) (by dsimp only;omega) (by dsimp only;rw [(ux (by omega)).2];have:=yz k (by omega);omega)
 refine Dr.ite (λ_=>?_) λ_=>?_
 ·unfold lq
  rw [obS]
  exact ofx hb (by decide) (by omega) (by omega) λs hs=>DrF (lo:=p) (hi:=p+2) (P:=λs:Str=>s.b.length≤4) rfl (by dsimp only;omega) (by dsimp only;omega) (qu (by decide) hs)
 ·exact ofx hb (by decide) (by omega) (by omega) λs hs=>DrF (lo:=p) (hi:=p+2) (P:=λs:Str=>s.b.length≤4) rfl (by dsimp only;omega) (by dsimp only;omega) (qu (by decide) hs)
theorem bg9 {b:List UInt8} (hb:b.length≤2000) {p:Int} (h0:0≤p) (h1:p≤800000):DrA (o7 ⟨b,p⟩) b p (p+3) (λs=>s.b.length≤5):=by
 unfold o7
 refine pk hb h0 (by omega) λv _ _=>?_
 dsimp only
 refine Dr.ite (λ_=>ofx hb (by decide) (by omega) (by omega) λs hs=>DrF (lo:=p) (hi:=p+3) (P:=λs:Str=>s.b.length≤5) rfl (by dsimp only;omega) (by dsimp only;omega) (qu (by decide) hs)) λ_=>?_
 exact DrA.bind (ag2 hb (p:=p+1) (by omega) (by omega)) λs q g1 g2 g3=>DrF (lo:=p) (hi:=p+3) (P:=λs:Str=>s.b.length≤5) rfl (by dsimp only;omega) (by dsimp only;omega) (by dsimp only;omega)
def be7 (s:Str):Prop:=s.b.length≤590∨∃ l,s.b=59::l
theorem ah5 {b:List UInt8} (hb:b.length≤2000) {p:Int} (h0:0≤p) (h1:p≤500000):Dr (ni ⟨b,p⟩) (λr=>be7 r.1):=by
 unfold ni
 refine ofx hb (by decide) h0 (by omega) λs hs=>?_
 have hs2:=qu (n:=2) (by decide) hs
 dsimp only
 refine pk hb (by omega) (by omega) λv _ _=>?_
 dsimp only
 refine nm hb (by decide) (by omega) (by omega) λn hn=>?_
 have hn2:0≤n∧n≤20:=by
  simp only [List.mem_cons,List.not_mem_nil,or_false] at hn
  omega
 dsimp only
 refine Dr.bind (P:=λt:Int × Str=>p≤t.1∧t.1≤p+203∧t.2.b.length≤150) ?_ λt ht=>?_
 ·refine Dr.bind (P:=λt:Int × Str=>p≤t.1∧t.1≤p+203∧t.2.b.length≤150) ?_ λt ht=>Dr.some ht
  refine Dr.loop (I:=λst:Int × Str × Int=>p≤st.1∧st.1+10*st.2.2≤p+203∧0≤st.2.2∧(st.2.1.b.length:Int)+7*st.2.2≤150) (λst=>st.2.2.toNat) ⟨by dsimp only;omega,by dsimp only;omega,hn2.1,by dsimp only;omega⟩ ?_
  rintro ⟨q,t,m⟩ ⟨i1,i2,i3,i4⟩
  dsimp only at i1 i2 i3 i4 ⊢
  by_cases hm:0<m
  ·rw [if_pos (by simpa using hm)]
   refine Dr.bind (P:=λu:Int × Str=>q≤u.1∧u.1≤q+3∧u.2.b.length≤t.b.length+5) ?_ λu hu=>?_
   ·refine Dr.ite (λ_=>?_) λ_=>?_
    ·refine DrA.bind (bg9 hb (p := q) (by omega) (by omega)) fun x q2 k1 k2 k3 => ?_
     obtain ⟨y,y1,y2⟩:=jd (s:=t) (t:=x) (by omega)
     dsimp only
     rw [y1]
     refine Dr.some ⟨k1,k2,?_⟩
     dsimp only
     rw [y2,List.length_append];omega
    ·refine DrA.bind (ag2 hb (p := q) (by omega) (by omega)) fun x q2 k1 k2 k3 => ?_
     obtain ⟨y,y1,y2⟩:=jd (s:=t) (t:=x) (by omega)
     dsimp only
     rw [y1]
     refine Dr.some ⟨k1,by dsimp only;omega,?_⟩
     dsimp only
     rw [y2,List.length_append];omega
   ·obtain ⟨u1,u2,u3⟩:=hu
    refine ofx hb (by decide) (by omega) (by omega) λx hx=>?_
    have hx2:=qu (n:=2) (by decide) hx
    obtain ⟨y,y1,y2⟩:=jd (s:=u.2) (t:=x) (by omega)
    have hy:=congrArg List.length y2
    rw [List.length_append] at hy
    have hw:w64 (m - 1)=m - 1:=gu (by omega) (by omega)
    dsimp only
    rw [y1,hw]
    refine Dr.some (And.intro (λz hz=>?_) λz hz=>by cases hz)
    simp only [Sum.inl.injEq] at hz
    subst hz
    dsimp only
    exact ⟨⟨by omega,by omega,by omega,by omega⟩,by omega⟩
  ·rw [if_neg (by simpa using hm)]
   refine Dr.some (And.intro (λz hz=>by cases hz) λz hz=>?_)
   simp only [Sum.inr.injEq] at hz
   subst hz
   exact ⟨i1,by dsimp only;omega,by dsimp only;omega⟩
 obtain ⟨t1,t2,t3⟩:=ht
 refine pk hb (by omega) (by omega) λv2 _ _=>?_
 dsimp only
 refine Dr.ite (λ_=>?_) λ_=>Dr.some (.inl (by dsimp only;omega))
 refine nm hb (by decide) (by omega) (by omega) λk hk=>?_
 have hk2:600≤k∧k≤601:=by
  simp only [List.mem_cons,List.not_mem_nil,or_false] at hk
  omega
 obtain ⟨x,x1,x2,x3⟩:=ac5 (s:=mkS [59]) (c:=59) rfl (n:=k) (by omega) (by omega)
 dsimp only
 rw [x1,obS]
 refine nm hb (by decide) (by omega) (by omega) λj hj=>?_
 have hj2:0≤j∧j≤2401:=by
  simp only [List.mem_cons,List.not_mem_nil,or_false] at hj
  omega
 obtain ⟨y,y1,y2,y3⟩:=ac5 (s:=mkS [32]) (c:=32) rfl (n:=j) (by omega) (by omega)
 obtain ⟨z,z1,z2⟩:=jd (s:=x) (t:=y) (by omega)
 dsimp only
 rw [y1,obS,z1,obS]
 refine Dr.some (.inr ?_)
 dsimp only
 rw [z2]
 match hx:x.b,x2,x3 with
 | [],h,_=>simp at h;omega
 | a::l,_,h =>
  have:a=59:=h a (by simp)
  subst this
  exact ⟨_,rfl⟩
end Prg
end Go.Wk
