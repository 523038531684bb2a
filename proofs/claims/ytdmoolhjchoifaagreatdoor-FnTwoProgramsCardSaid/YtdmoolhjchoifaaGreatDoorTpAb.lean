/- A part of the proof of FnTwoProgramsCardSaid. -/
import Derived.Test.YtdmoolhjchoifaaGreatDoorTpA
namespace Go.Wk
open Go
namespace Prg
set_option maxRecDepth 10000
theorem yu {w:eu} (hw:k7 w=true) (hk:ov w.text=true):w.kind=4:=by
 have hne:=hk
 unfold ov at hne
 have hne:=of_decide_eq_true hne
 unfold k7 at hw
 by_cases h1:w.kind=1
 ·rw [if_pos h1] at hw
  unfold ic at hw
  rw [hk] at hw
  simp at hw
 rw [if_neg h1] at hw
 by_cases h2:w.kind=2
 ·rw [if_pos h2] at hw
  have:mR w.text=-1:=by
   have key:∀ s∈fP,s.b.all jn=false:=by decide
   unfold mR
   rw [if_neg]
   rintro ⟨_,h,_⟩
   rw [key _ hne] at h;cases h
  rw [this] at hw
  simp at hw
 rw [if_neg h2] at hw
 by_cases h3:w.kind=3
 ·rw [if_pos h3] at hw
  have key:∀ s∈fP,∃ a b l,s.b=a::b::l:=by
   intro s hs
   unfold fP at hs
   simp only [List.mem_cons,List.not_mem_nil,or_false] at hs
   rcases hs with rfl | rfl | rfl | rfl | rfl | rfl | rfl | rfl | rfl<;>exact ⟨_,_,_,rfl⟩
  obtain ⟨a,b,l,h⟩:=key _ hne
  rw [h] at hw
  cases hw
 rw [if_neg h3] at hw
 by_cases h4:w.kind=4
 ·exact h4
 ·rw [if_neg h4] at hw;cases hw
theorem at6 {t:Str} (h:opK t≠0):ov t=true:=by
 unfold opK at h
 by_cases h1:t=wy
 ·subst h1;decide
 by_cases h2:t=xJ
 ·subst h2;decide
 by_cases h3:t=xF
 ·subst h3;decide
 by_cases h4:t=tIf
 ·subst h4;decide
 by_cases h5:t=rQ
 ·subst h5;decide
 by_cases h6:t=rP
 ·subst h6;decide
 by_cases h7:t=tDo
 ·subst h7;decide
 ·simp [h1,h2,h3,h4,h5,h6,h7] at h
theorem xX (t:Str):opK t=0∨opK t=1∨opK t=3∨opK t=4∨opK t=5∨opK t=6∨opK t=7∨opK t=8:=by
 unfold opK;repeat' split
 all_goals decide
theorem av1 (t:Str):pc t=some (if opK t=0 then 2 else opK t):=by
 by_cases h1:t=wy
 ·subst h1;rfl
 by_cases h2:t=xJ
 ·subst h2;rfl
 by_cases h3:t=xF
 ·subst h3;rfl
 by_cases h4:t=tIf
 ·subst h4;rfl
 by_cases h5:t=rQ
 ·subst h5;rfl
 by_cases h6:t=rP
 ·subst h6;rfl
 by_cases h7:t=tDo
 ·subst h7;rfl
 have h0:opK t=0:=by unfold opK;simp [h1,h2,h3,h4,h5,h6,h7]
 rw [h0,if_pos rfl]
 unfold pc
 rw [show (((9:Int):Int) - 1).toNat=8 from rfl]
 have g:∀ i:Int,fW [(mkS []),wy,(mkS []),xJ,xF,tIf,rQ,rP,tDo] i=([(mkS []),wy,(mkS []),xJ,xF,tIf,rQ,rP,tDo]:List Str)[i.toNat]?∨i<0:=by
  intro i
  unfold fW
  by_cases h:0≤i
  ·left;simp [h]
  ·right;omega
 have e1:decide (mkS [108,101,116]=t)=false:=decide_eq_false λe=>h1 e.symm
 have e2:decide (mkS [115,97,121]=t)=false:=decide_eq_false λe=>h2 e.symm
 have e3:decide (mkS [112,117,116]=t)=false:=decide_eq_false λe=>h3 e.symm
 have e4:decide (mkS [105,102]=t)=false:=decide_eq_false λe=>h4 e.symm
 have e5:decide (mkS [108,111,111,112]=t)=false:=decide_eq_false λe=>h5 e.symm
 have e6:decide (mkS [98,97,99,107]=t)=false:=decide_eq_false λe=>h6 e.symm
 have e7:decide (mkS [100,111]=t)=false:=decide_eq_false λe=>h7 e.symm
 have e8:(if decide (mkS []=t)=true then some (decide (t≠mkS [])) else some false:Option Bool)=some false:=by
  by_cases h:mkS []=t
  ·subst h;rfl
  ·rw [decide_eq_false h];rfl
 have g1:fW ([(mkS []),(mkS [108,101,116]),(mkS []),(mkS [115,97,121]),(mkS [112,117,116]),(mkS [105,102]),(mkS [108,111,111,112]),(mkS [98,97,99,107]),(mkS [100,111])]:List Str) 1=some (mkS [108,101,116]):=rfl
 have g2:fW ([(mkS []),(mkS [108,101,116]),(mkS []),(mkS [115,97,121]),(mkS [112,117,116]),(mkS [105,102]),(mkS [108,111,111,112]),(mkS [98,97,99,107]),(mkS [100,111])]:List Str) 2=some (mkS []):=rfl
 have g3:fW ([(mkS []),(mkS [108,101,116]),(mkS []),(mkS [115,97,121]),(mkS [112,117,116]),(mkS [105,102]),(mkS [108,111,111,112]),(mkS [98,97,99,107]),(mkS [100,111])]:List Str) 3=some (mkS [115,97,121]):=rfl
 have g4:fW ([(mkS []),(mkS [108,101,116]),(mkS []),(mkS [115,97,121]),(mkS [112,117,116]),(mkS [105,102]),(mkS [108,111,111,112]),(mkS [98,97,99,107]),(mkS [100,111])]:List Str) 4=some (mkS [112,117,116]):=rfl
 have g5:fW ([(mkS []),(mkS [108,101,116]),(mkS []),(mkS [115,97,121]),(mkS [112,117,116]),(mkS [105,102]),(mkS [108,111,111,112]),(mkS [98,97,99,107]),(mkS [100,111])]:List Str) 5=some (mkS [105,102]):=rfl
 have g6:fW ([(mkS []),(mkS [108,101,116]),(mkS []),(mkS [115,97,121]),(mkS [112,117,116]),(mkS [105,102]),(mkS [108,111,111,112]),(mkS [98,97,99,107]),(mkS [100,111])]:List Str) 6=some (mkS [108,111,111,112]):=rfl
 have g7:fW ([(mkS []),(mkS [108,101,116]),(mkS []),(mkS [115,97,121]),(mkS [112,117,116]),(mkS [105,102]),(mkS [108,111,111,112]),(mkS [98,97,99,107]),(mkS [100,111])]:List Str) 7=some (mkS [98,97,99,107]):=rfl
 have g8:fW ([(mkS []),(mkS [108,101,116]),(mkS []),(mkS [115,97,121]),(mkS [112,117,116]),(mkS [105,102]),(mkS [108,111,111,112]),(mkS [98,97,99,107]),(mkS [100,111])]:List Str) 8=some (mkS [100,111]):=rfl
 simp only [forN,show (1:Int)+1=2 from rfl,show (2:Int)+1=3 from rfl,show (3:Int)+1=4 from rfl,show (4:Int)+1=5 from rfl,show (5:Int)+1=6 from rfl,show (6:Int)+1=7 from rfl,show (7:Int)+1=8 from rfl,g1,g2,g3,g4,g5,g6,g7,g8,obS,e1,e2,e3,e4,e5,e6,e7,e8,Bool.false_eq_true,if_false]
 rfl
theorem am6 (t:Str):(p7.get fj t).getD 0=opK t:=by
 unfold p7.get fj na opK
 by_cases h1:t=wy
 ·subst h1;rfl
 by_cases h2:t=xJ
 ·subst h2;rfl
 by_cases h3:t=xF
 ·subst h3;rfl
 by_cases h4:t=tIf
 ·subst h4;rfl
 by_cases h5:t=rQ
 ·subst h5;rfl
 by_cases h6:t=rP
 ·subst h6;rfl
 by_cases h7:t=tDo
 ·subst h7;rfl
 have f1:¬ t=mkS [108,101,116]:=h1
 have f2:¬ t=mkS [115,97,121]:=h2
 have f3:¬ t=mkS [112,117,116]:=h3
 have f4:¬ t=mkS [105,102]:=h4
 have f5:¬ t=mkS [108,111,111,112]:=h5
 have f6:¬ t=mkS [98,97,99,107]:=h6
 have f7:¬ t=mkS [100,111]:=h7
 simp [lT,h1,h2,h3,h4,h5,h6,h7,f1,f2,f3,f4,f5,f6,f7]
def SpW (list:List eu) (o:Option (List eu)) (res:Option fF):Prop:=match o with
 | some r=>∃ m:Nat,AtW list m r∧res=some ⟨list,(m:Int)⟩
 | none=>res=some ⟨list,-1⟩
def SpO {X:Type} (list:List eu) (o:Option (X × List eu)) (res:Option (X × fF)):Prop:=match o with
 | some p=>∃ m:Nat,AtW list m p.2∧res=some (p.1,⟨list,(m:Int)⟩)
 | none=>∃ x,res=some (x,⟨list,-1⟩)
theorem sIs {list:List eu} {n:Nat} {ws:List eu} (h:AtW list n ws) (t:Str):fy ⟨list,(n:Int)⟩ t=some (isT ws t):=by
 unfold fy
 rw [if_pos (by simp),tz h];rfl
theorem az5 (list:List eu) (t:Str):fy ⟨list,-1⟩ t=some false:=rfl
theorem qQ {list:List eu} (hl:list.length≤1000) {n:Nat} {ws:List eu} (h:AtW list n ws) (t:Str):SpW list (wT t ws) (fH ⟨list,(n:Int)⟩ t):=by
 unfold fH wT
 rw [sIs h,obS]
 have:=h.2
 cases ws with
 | nil=>rfl
 | cons w r =>
  cases hi:isT (w::r) t with
  | true=>exact ⟨n+1,(jK h).2.2,by simp only [Bool.not_true,Bool.false_eq_true,if_false];rw [sI (by omega)]⟩
  | false=>rfl
theorem mJ (list:List eu) (t:Str):fH ⟨list,-1⟩ t=some ⟨list,-1⟩:=by
 unfold fH
 rw [az5];rfl
theorem ad9 {list:List eu} (hl:list.length≤1000) {n:Nat} {ws:List eu} (h:AtW list n ws):SpO list (nT ws) (ga ⟨list,(n:Int)⟩):=by
 unfold ga nT
 have e0:decide ((n:Int)<0)=false:=by simp
 have hle:=h.2
 cases ws with
 | nil =>
  have h1:=xZ h
  have e1:decide ((list.length:Int)≤(n:Int))=true:=by simp;omega
  dsimp only
  rw [e0,e1]
  exact ⟨_,rfl⟩
 | cons w r =>
  obtain ⟨h1,h2,h3⟩:=jK h
  have e1:decide ((list.length:Int)≤(n:Int))=false:=by simp;omega
  have e2:w64 (((n+1:Nat):Int) - 1)=(n:Int):=by rw [hO (by omega) (by omega)];omega
  dsimp only
  rw [e0,e1,sI (by omega),e2,h2]
  by_cases hk:w.kind=1
  ·simp only [hk,Bool.false_eq_true,if_false,obS,ne_eq,not_true_eq_false,decide_false,if_true]
   exact ⟨n+1,h3,rfl⟩
  ·simp only [hk,Bool.false_eq_true,if_false,obS,ne_eq,not_false_eq_true,decide_true,if_true]
   exact ⟨_,rfl⟩
theorem am4 (list:List eu):ga ⟨list,-1⟩=some (mkS [],⟨list,-1⟩):=rfl
theorem ba7 {list:List eu} (hl:list.length≤1000) (hv:vW list) {n:Nat} {ws:List eu} (h:AtW list n ws):SpO list (rE ws) (iX ⟨list,(n:Int)⟩):=by
 have hvw:vW ws:=λw hw=>hv w (List.mem_of_mem_drop (by rw [h.1];exact hw))
 have hlw:ws.length≤1000:=by rw [← h.1,List.length_drop];omega
 unfold iX
 have e0:decide ((n:Int)<0)=false:=by simp
 dsimp only
 rw [e0]
 cases hr:rE ws with
 | some p =>
  obtain ⟨m,g1,g2,g3⟩:=rG hl hv (vm hr) n h
  rw [if_neg (by simp),g3]
  refine ⟨m,g1,?_⟩
  simp only [obS,rZ]
 | none =>
  obtain ⟨e,g⟩:=(ac0 hvw hlw hr).1 list n hl hv h
  rw [if_neg (by simp),g]
  exact ⟨_,rfl⟩
theorem wY (list:List eu):iX ⟨list,-1⟩=some (⟨0,0,mkS [],[]⟩,⟨list,-1⟩):=rfl
theorem s9 (list:List eu):fx ⟨list,-1⟩=some ([],⟨list,-1⟩):=by
 rw [fx,mJ,obS]
 refine fT (fT (gH rfl) rfl) ?_
 rw [mJ];rfl
def ImW (o:Option (List eu)) (res:Option ez):Prop:=match o with
 | some r=>res=some ⟨r,false⟩
 | none=>∃ ws',res=some ⟨ws',true⟩
def ImO {X:Type} (o:Option (X × List eu)) (res:Option (X × ez)):Prop:=match o with
 | some p=>res=some (p.1,⟨p.2,false⟩)
 | none=>∃ x ws',res=some (x,⟨ws',true⟩)
theorem ot (ws:List eu) (k:Int) (t:Str):∃ ws',fC ⟨ws,true⟩ k t=some ⟨ws',true⟩:=by
 rw [pz]
 cases tkW ws k t<;>exact ⟨_,rfl⟩
theorem ar2 {ws:List eu} {k:Int} {t:Str} (h:tkW ws k t=isT ws t):ImW (wT t ws) (fC ⟨ws,false⟩ k t):=by
 rw [pz,h]
 unfold wT
 cases isT ws t with
 | true=>rfl
 | false=>exact ⟨_,rfl⟩
theorem tx {ws:List eu} (hw:vW ws) {t:Str} {c:UInt8} (ht:t.b=[c]) (hc:c∈nP):ImW (wT t ws) (fC ⟨ws,false⟩ 3 t):=ar2 (qM hw ht hc)
theorem ap3 {ws:List eu} (hw:vW ws) {t:Str} (ht:ov t=true):tkW ws 4 t=isT ws t:=by
 cases ws with
 | nil=>rfl
 | cons w r =>
  unfold tkW isT
  by_cases h:w.text=t
  ·have := yu (oQ hw) (by rw [h]; exact ht)
   simp [h,this]
  ·simp [h]
theorem ak4 {ws:List eu}:ImO (nT ws) (fa ⟨ws,false⟩):=by
 unfold fa nT
 cases ws with
 | nil =>
  rw [qp]
  exact ⟨_,_,rfl⟩
 | cons w r =>
  rw [oZ]
  by_cases hk:w.kind=1
  ·simp [hk,ImO]
  ·simp [hk,ImO]
theorem an3 (ws:List eu):∃ x ws',fa ⟨ws,true⟩=some (x,⟨ws',true⟩):=by
 unfold fa
 cases ws with
 | nil=>rw [qp];exact ⟨_,_,rfl⟩
 | cons w r =>
  rw [oZ]
  by_cases hk:w.kind=1
  ·exact ⟨w.text,r,by simp [hk]⟩
  ·exact ⟨w.text,r,by simp [hk]⟩
theorem bb8 {ws:List eu} (hv:vW ws) (hl:ws.length≤1000):ImO (rE ws) (fD ⟨ws,false⟩ 1):=by
 cases hr:rE ws with
 | some p=>exact pD (vm hr) hv hl
 | none=>exact (ac0 hv hl hr).2
theorem pH (ws:List eu):∃ ws',fc ⟨ws,true⟩=some ([],⟨ws',true⟩):=by
 obtain ⟨ws',h⟩:=ot ws 3 (mkS [123])
 refine ⟨ws',?_⟩
 rw [fc,h,obS]
 exact fT (fT (gH rfl) rfl) rfl
end Prg
end Go.Wk
namespace Go.Wk
open Go
namespace Prg
set_option maxRecDepth 10000
noncomputable def pT (k:Nat) (op:Int) (nm:Str) (ws:List eu):Option (fB × List eu):=(rE ws).bind λa =>
  if op=4 then (wT (mkS [44]) a.2).bind λq=>(rE q).bind λb=>(wT (mkS [59]) b.2).map λr=>(⟨4,nm,[a.1,b.1],[],[]⟩,r)
  else if op=5 then (pK k a.2).bind λb=>if isT b.2 og then (pK k b.2.tail).map λc=>(⟨5,nm,[a.1],b.1,c.1⟩,c.2) else some (⟨5,nm,[a.1],b.1,[]⟩,b.2)
  else if op=6 then (pK k a.2).map λb=>(⟨6,nm,[a.1],b.1,[]⟩,b.2)
  else (wT (mkS [59]) a.2).map λr=>(⟨op,nm,[a.1],[],[]⟩,r)
theorem ba4 (k:Nat) (ws:List eu):pS (k+1) ws=(kK ws).bind λh=>pT k h.1 h.2.1 h.2.2:=by rw [pS];rfl
noncomputable def tlS (list:List eu) (uB:Int) (uC:Int × Str):Option (fB × fF) :=
 (iX (⟨list,uC.1⟩:fF)).bind λuA=>(if decide (uB=5) then (fx (⟨list,uA.2.at_⟩:fF)).bind λuD=>(fy (⟨list,uD.2.at_⟩:fF) (mkS [101,108,115,101])).bind λuK=>(if uK then (fH (⟨list,uD.2.at_⟩:fF) (mkS [101,108,115,101])).bind λuL=>(fx (⟨list,uL.at_⟩:fF)).bind λuE=>some (uE.1,uE.2.at_) else some ([],uD.2.at_):Option ((List fB) × Int)).bind λuF=>some (.inr ((⟨uB,uC.2,([uA.1]:List ey),uD.1,uF.1⟩:fB),(⟨list,uF.2⟩:fF))) else if decide (uB=6) then (fx (⟨list,uA.2.at_⟩:fF)).bind λuG=>some (.inr ((⟨uB,uC.2,([uA.1]:List ey),uG.1,[]⟩:fB),(⟨list,uG.2.at_⟩:fF))) else (if decide (uB=4) then (fH (⟨list,uA.2.at_⟩:fF) (mkS [44])).bind λuM=>(iX (⟨list,uM.at_⟩:fF)).bind λuH=>(fq ([uA.1]:List ey) ([uH.1]:List ey)).bind λuN=>some (uH.2.at_,uN) else some (uA.2.at_,([uA.1]:List ey)):Option (Int × (List ey))).bind λuI=>some (.inl (uI.1,uI.2)):Option ((Int × (List ey)) ⊕ (fB × fF))).bind (Sum.elim (λuJ=>(fH (⟨list,uJ.1⟩:fF) (mkS [59])).bind λuO=>some ((⟨uB,uC.2,uJ.2,[],[]⟩:fB),(⟨list,uO.at_⟩:fF))) (λe0=>some e0))
noncomputable def tlI (uA:List eu × Bool × Int × Str):Option (fB × ez) :=
 (fD (⟨uA.1,uA.2.1⟩:ez) 1).bind λuD=>(fq ([]:List ey) ([uD.1]:List ey)).bind λuL=>(if decide (uA.2.2.1=4) then (fC uD.2 3 (mkS [44])).bind λuN=>(fD uN 1).bind λuH=>(fq uL ([uH.1]:List ey)).bind λuO=>some (uH.2.list,uH.2.bad,uO) else some (uD.2.list,uD.2.bad,uL):Option ((List eu) × Bool × (List ey))).bind λuB=>((if decide (uA.2.2.1=5) then some true else some (decide (uA.2.2.1=6)):Option (Bool)).bind λuP=>(if uP then (fc (⟨uB.1,uB.2.1⟩:ez)).bind λuE=>(if decide (uA.2.2.1=5) then (fJ uE.2 4 (mkS [101,108,115,101])).bind λuI=>some (uI.2.list,uI.2.bad,uI.1) else some (uE.2.list,uE.2.bad,false):Option ((List eu) × Bool × Bool)).bind λuC=>(if uC.2.2 then (fc (⟨uC.1,uC.2.1⟩:ez)).bind λuJ=>some (uJ.1,uJ.2.list,uJ.2.bad) else some ([],uC.1,uC.2.1):Option ((List fB) × (List eu) × Bool)).bind λuK=>some (uE.1,uK.1,uK.2.1,uK.2.2) else (fC (⟨uB.1,uB.2.1⟩:ez) 3 (mkS [59])).bind λuM=>some ([],[],uM.list,uM.bad):Option ((List fB) × (List fB) × (List eu) × Bool)).bind λuF=>some (uF.1,uF.2.1,uF.2.2.1,uF.2.2.2):Option ((List fB) × (List fB) × (List eu) × Bool)).bind λuG=>some ((⟨uA.2.2.1,uA.2.2.2,uB.2.2,uG.1,uG.2.1⟩:fB),(⟨uG.2.2.1,uG.2.2.2⟩:ez))
theorem bc8 {α:Type} (x:α):fq ([]:List α) [x]=some [x]:=jH (by simp)
theorem xC {α:Type} (x y:α):fq [x] [y]=some [x,y]:=jH (by simp)
theorem sj (list:List eu) (op:Int) (nm:Str):∃ x,tlS list op (-1,nm)=some (x,⟨list,-1⟩):=by
 unfold tlS
 rw [wY,obS]
 dsimp only
 by_cases h5:op=5
 ·rw [if_pos (decide_eq_true h5),s9,obS]
  dsimp only
  rw [az5]
  exact ⟨_,rfl⟩
 rw [if_neg (show ¬ decide (op=5)=true by simpa using h5)]
 by_cases h6:op=6
 ·rw [if_pos (decide_eq_true h6),s9]
  exact ⟨_,rfl⟩
 rw [if_neg (show ¬ decide (op=6)=true by simpa using h6)]
 by_cases h4:op=4
 ·rw [if_pos (decide_eq_true h4),mJ,obS]
  dsimp only
  rw [wY,obS]
  dsimp only
  rw [xC]
  simp only [obS,Sum.elim_inl]
  rw [mJ]
  exact ⟨_,rfl⟩
 ·rw [if_neg (show ¬ decide (op = 4) = true by simpa using h4)]
  simp only [obS,Sum.elim_inl]
  rw [mJ]
  exact ⟨_,rfl⟩
def OkS (k:Nat) (ws:List eu):Prop:=∀ list (n:Nat),list.length≤1000→vW list→AtW list n ws→SpO list (pK k ws) (fx ⟨list,(n:Int)⟩)
theorem zP {k:Nat} {list:List eu} (hl:list.length≤1000) (hv:vW list) {op:Int} {nm:Str} {n:Nat} {ws:List eu} (ha:AtW list n ws) (hk:∀ r,jo r ws→OkS k r):SpO list (pT k op nm ws) (tlS list op ((n:Int),nm)):=by
 unfold tlS pT
 have h1:=ba7 hl hv ha
 cases hq1:rE ws with
 | none =>
  rw [hq1] at h1
  obtain ⟨e,h1⟩:=h1
  have h2:=sj list op nm
  obtain ⟨x,h2⟩:=h2
  show ∃ x,_
  unfold tlS at h2
  rw [wY,obS] at h2
  dsimp only at h1 h2 ⊢
  rw [h1,obS]
  dsimp only
  by_cases h5:op=5
  ·rw [if_pos (decide_eq_true h5),s9,obS]
   dsimp only
   rw [az5]
   exact ⟨_,rfl⟩
  rw [if_neg (show ¬ decide (op=5)=true by simpa using h5)]
  by_cases h6:op=6
  ·rw [if_pos (decide_eq_true h6),s9]
   exact ⟨_,rfl⟩
  rw [if_neg (show ¬ decide (op=6)=true by simpa using h6)]
  by_cases h4:op=4
  ·rw [if_pos (decide_eq_true h4),mJ,obS]
   dsimp only
   rw [wY,obS]
   dsimp only
   rw [xC]
   simp only [obS,Sum.elim_inl]
   rw [mJ]
   exact ⟨_,rfl⟩
  ·rw [if_neg (show ¬ decide (op = 4) = true by simpa using h4)]
   simp only [obS,Sum.elim_inl]
   rw [mJ]
   exact ⟨_,rfl⟩
 | some a =>
  obtain ⟨e,q⟩:=a
  rw [hq1] at h1
  obtain ⟨m,a1,h1⟩:=h1
  have su:=qn hq1
  dsimp only at h1 a1 ⊢
  rw [h1,obS,obS]
  dsimp only
  by_cases h4:op=4
  ·rw [if_pos h4, if_neg (show ¬ decide (op = 5) = true by simp [h4]), if_neg (show ¬ decide (op = 6) = true by simp [h4]), if_pos (decide_eq_true h4)]
   have h2:=qQ hl a1 (mkS [44])
   cases hq2:wT (mkS [44]) q with
   | none =>
    rw [hq2] at h2
    rw [show fH ⟨list,(m:Int)⟩ (mkS [44])=some ⟨list,-1⟩ from h2,obS]
    dsimp only
    rw [wY,obS]
    dsimp only
    rw [xC]
    simp only [obS,Sum.elim_inl,Option.bind_none]
    rw [mJ]
    exact ⟨_,rfl⟩
   | some q2 =>
    rw [hq2] at h2
    obtain ⟨m2,a2,h2⟩:=h2
    rw [h2,obS,obS]
    dsimp only
    have h3:=ba7 hl hv a2
    cases hq3:rE q2 with
    | none =>
     rw [hq3] at h3
     obtain ⟨e2,h3⟩:=h3
     rw [h3,obS]
     dsimp only
     rw [xC]
     simp only [obS,Sum.elim_inl,Option.bind_none]
     rw [mJ]
     exact ⟨_,rfl⟩
    | some b =>
     rw [hq3] at h3
     obtain ⟨m3,a3,h3⟩:=h3
     rw [h3,obS,obS]
     dsimp only
     rw [xC]
     simp only [obS,Sum.elim_inl]
     have h5:=qQ hl a3 (mkS [59])
     cases hq4:wT (mkS [59]) b.2 with
     | none =>
      rw [hq4] at h5
      rw [show fH ⟨list,(m3:Int)⟩ (mkS [59])=some ⟨list,-1⟩ from h5]
      exact ⟨_,rfl⟩
     | some q4 =>
      rw [hq4] at h5
      obtain ⟨m4,a4,h5⟩:=h5
      rw [h5]
      exact ⟨m4,a4,by rw [h4];rfl⟩
  rw [if_neg h4]
  by_cases h5:op=5
  ·rw [if_pos h5,if_pos (decide_eq_true h5)]
   have h2:=hk q su list m hl hv a1
   cases hq2:pK k q with
   | none =>
    rw [hq2] at h2
    obtain ⟨b,h2⟩:=h2
    rw [h2,obS]
    dsimp only
    rw [az5]
    exact ⟨_,rfl⟩
   | some b =>
    rw [hq2] at h2
    obtain ⟨m2,a2,h2⟩:=h2
    have su2:=(oS k).2.1 _ _ _ hq2
    rw [h2,obS,obS]
    dsimp only
    rw [sIs a2,obS]
    show SpO list (if isT b.2 (mkS [101,108,115,101])=true then _ else _) _
    cases ht:isT b.2 (mkS [101,108,115,101]) with
    | false =>
     simp only [Bool.false_eq_true,if_false,obS,Sum.elim_inr]
     exact ⟨m2,a2,by rw [h5]⟩
    | true =>
     simp only [if_true]
     have h3:=qQ hl a2 (mkS [101,108,115,101])
     have hw:wT (mkS [101,108,115,101]) b.2=some b.2.tail:=by unfold wT;rw [ht];rfl
     rw [hw] at h3
     obtain ⟨m3,a3,h3⟩:=h3
     rw [h3,obS]
     dsimp only
     have su3:=jT hw
     have h6:=hk b.2.tail (jo.trans su3.le (jo.trans su2.le su)) list m3 hl hv a3
     cases hq3:pK k b.2.tail with
     | none =>
      rw [hq3] at h6
      obtain ⟨c,h6⟩:=h6
      rw [h6]
      exact ⟨_,rfl⟩
     | some c =>
      rw [hq3] at h6
      obtain ⟨m4,a4,h6⟩:=h6
      rw [h6]
      exact ⟨m4,a4,by rw [h5];rfl⟩
  rw [if_neg h5,if_neg (show ¬ decide (op=5)=true by simpa using h5)]
  by_cases h6:op=6
  ·rw [if_pos h6,if_pos (decide_eq_true h6)]
   have h2:=hk q su list m hl hv a1
   cases hq2:pK k q with
   | none =>
    rw [hq2] at h2
    obtain ⟨b,h2⟩:=h2
    rw [h2]
    exact ⟨_,rfl⟩
   | some b =>
    rw [hq2] at h2
    obtain ⟨m2,a2,h2⟩:=h2
    rw [h2]
    exact ⟨m2,a2,by rw [h6];rfl⟩
  rw [if_neg h6,if_neg (show ¬ decide (op=6)=true by simpa using h6),if_neg (show ¬ decide (op=4)=true by simpa using h4)]
  simp only [obS,Sum.elim_inl]
  have h2:=qQ hl a1 (mkS [59])
  cases hq2:wT (mkS [59]) q with
  | none =>
   rw [hq2] at h2
   rw [show fH ⟨list,(m:Int)⟩ (mkS [59])=some ⟨list,-1⟩ from h2]
   exact ⟨_,rfl⟩
  | some q2 =>
   rw [hq2] at h2
   obtain ⟨m2,a2,h2⟩:=h2
   rw [h2]
   exact ⟨m2,a2,rfl⟩
theorem ao5 {k:Nat} {list:List eu} (hl:list.length≤1000) (hv:vW list) {n:Nat} {ws:List eu} (ha:AtW list n ws) (hk:∀ r,jo r ws→OkS k r):SpO list (pS (k+1) ws) (iZ ⟨list,(n:Int)⟩):=by
 rw [iZ,ba4]
 have hle:=ha.2
 dsimp only
 cases ws with
 | nil =>
  have:=xZ ha
  rw [if_pos (by simp;omega)]
  exact ⟨_,rfl⟩
 | cons w r =>
  obtain ⟨h1,h2,h3⟩:=jK ha
  rw [if_neg (by simp;omega),h2,obS,av1,obS,obS]
  have hsr:jo r (w::r):=mH w r
  by_cases h0:opK w.text=0
  ·rw [h0]
   simp only [if_true,ne_eq,not_true_eq_false,decide_false,Bool.false_eq_true,if_false,obS,show decide ((2:Int)=1)=false from rfl,decide_true]
   have h4:=ad9 hl ha
   by_cases hw:w.kind=1
   ·have hn : nT (w :: r) = some (w.text, r) := by simp [nT, hw]
    rw [hn] at h4
    obtain ⟨m,a1,h4⟩:=h4
    rw [h4,obS]
    dsimp only at a1 ⊢
    have h5:=qQ hl a1 (mkS [61])
    cases hq:wT (mkS [61]) r with
    | none =>
     rw [hq] at h5
     have hh:kK (w::r)=none:=by simp [kK,h0,hw,hq]
     rw [show fH ⟨list,(m:Int)⟩ (mkS [61])=some ⟨list,-1⟩ from h5,hh]
     exact sj list 2 w.text
    | some q =>
     rw [hq] at h5
     obtain ⟨m2,a2,h5⟩:=h5
     have hh:kK (w::r)=some (2,w.text,q):=by simp [kK,h0,hw,hq]
     rw [h5,hh]
     exact zP hl hv a2 λx hx=>hk x (jo.trans hx.le (jo.trans (jT hq).le hsr))
   ·have hn : nT (w :: r) = none := by simp [nT, hw]
    rw [hn] at h4
    obtain ⟨x,h4⟩:=h4
    have hh:kK (w::r)=none:=by simp [kK,h0,hw]
    rw [h4,obS]
    dsimp only
    rw [mJ,hh]
    exact sj list 2 x
  ·by_cases hl1:opK w.text=1
   ·rw [hl1]
    simp only [show ((1:Int)=0)=False from by simp,if_false,ne_eq,show ((1:Int)=2)=False from by simp,not_false_eq_true,decide_true,if_true,obS]
    rw [sI (by omega)]
    have h4:=ad9 hl h3
    cases hn:nT r with
    | none =>
     rw [hn] at h4
     obtain ⟨x,h4⟩:=h4
     have hh:kK (w::r)=none:=by simp [kK,hl1,hn]
     rw [h4,obS]
     dsimp only
     rw [mJ,hh]
     exact sj list 1 x
    | some p =>
     rw [hn] at h4
     obtain ⟨m,a1,h4⟩:=h4
     rw [h4,obS]
     dsimp only
     have h5:=qQ hl a1 (mkS [61])
     cases hq:wT (mkS [61]) p.2 with
     | none =>
      rw [hq] at h5
      have hh:kK (w::r)=none:=by simp [kK,hl1,hn,hq]
      rw [show fH ⟨list,(m:Int)⟩ (mkS [61])=some ⟨list,-1⟩ from h5,hh]
      exact sj list 1 p.1
     | some q =>
      rw [hq] at h5
      obtain ⟨m2,a2,h5⟩:=h5
      have hh:kK (w::r)=some (1,p.1,q):=by simp [kK,hl1,hn,hq]
      rw [h5,hh]
      exact zP hl hv a2 λx hx=>hk x (jo.trans hx.le (jo.trans ((jT hq).le.trans (oo (n:=p.1) (q:=p.2) hn).le) hsr))
   ·have h2':opK w.text≠2:=by
     have:=xX w.text
     omega
    have hh:kK (w::r)=some (opK w.text,mkS [],r):=by simp [kK,h0,hl1]
    rw [if_neg h0,if_pos (by simpa using h2'),obS,if_neg (by simpa using hl1),obS,if_neg (by simpa using h2'),sI (by omega),hh]
    exact zP hl hv h3 λx hx=>hk x (jo.trans hx.le hsr)
end Prg
end Go.Wk
namespace Go.Wk
open Go
namespace Prg
set_option maxRecDepth 10000
theorem vi (ws:List eu) (op:Int) (nm:Str):∃ x ws',tlI (ws,true,op,nm)=some (x,⟨ws',true⟩):=by
 unfold tlI
 obtain ⟨e,ws1,h1⟩:=q9 1 (by omega) ws
 dsimp only
 rw [h1,obS,bc8,obS]
 dsimp only
 by_cases h4:op=4
 ·obtain ⟨ws2,h2⟩:=ot ws1 3 (mkS [44])
  obtain ⟨e2,ws3,h3⟩:=q9 1 (by omega) ws2
  obtain ⟨ws4,h5⟩:=ot ws3 3 (mkS [59])
  rw [if_pos (decide_eq_true h4),h2,obS,h3,obS,xC]
  simp only [obS]
  rw [if_neg (show ¬ decide (op=5)=true by simp [h4])]
  simp only [obS]
  rw [if_neg (show ¬ decide (op=6)=true by simp [h4]),h5]
  exact ⟨_,_,rfl⟩
 rw [if_neg (show ¬ decide (op=4)=true by simpa using h4)]
 simp only [obS]
 by_cases h5:op=5
 ·obtain ⟨ws2,h2⟩:=pH ws1
  rw [if_pos (decide_eq_true h5)]
  simp only [obS,if_true]
  rw [h2,obS,if_pos (decide_eq_true h5)]
  dsimp only
  rw [lY,obS,obS]
  dsimp only
  cases tkW ws2 4 (mkS [101,108,115,101]) with
  | false=>exact ⟨_,_,rfl⟩
  | true =>
   obtain ⟨ws3,h3⟩:=pH ws2.tail
   simp only [if_true]
   rw [h3]
   exact ⟨_,_,rfl⟩
 rw [if_neg (show ¬ decide (op=5)=true by simpa using h5)]
 simp only [obS]
 by_cases h6:op=6
 ·obtain ⟨ws2,h2⟩:=pH ws1
  rw [if_pos (decide_eq_true h6)]
  rw [h2,obS,if_neg (show ¬ decide (op=5)=true by simpa using h5)]
  exact ⟨_,_,rfl⟩
 ·obtain ⟨ws2,h2⟩:=ot ws1 3 (mkS [59])
  rw [if_neg (show ¬ decide (op=6)=true by simpa using h6),h2]
  exact ⟨_,_,rfl⟩
def OkI (k:Nat) (ws:List eu):Prop:=ImO (pK k ws) (fc ⟨ws,false⟩)
theorem aa1 {k:Nat} {op:Int} {nm:Str} {ws:List eu} (hv:vW ws) (hl:ws.length≤1000) (hk:∀ r,jo r ws→OkI k r):ImO (pT k op nm ws) (tlI (ws,false,op,nm)):=by
 unfold tlI pT
 have h1:=bb8 hv hl
 cases hq1:rE ws with
 | none =>
  rw [hq1] at h1
  obtain ⟨e,ws1,h1⟩:=h1
  have hb:=vi ws1 op nm
  show ∃ x ws',_
  dsimp only
  rw [h1,obS,bc8,obS]
  dsimp only
  by_cases h4:op=4
  ·obtain ⟨ws2,h2⟩:=ot ws1 3 (mkS [44])
   obtain ⟨e2,ws3,h3⟩:=q9 1 (by omega) ws2
   obtain ⟨ws4,h5⟩:=ot ws3 3 (mkS [59])
   rw [if_pos (decide_eq_true h4),h2,obS,h3,obS,xC]
   simp only [obS]
   rw [if_neg (show ¬ decide (op=5)=true by simp [h4])]
   simp only [obS]
   rw [if_neg (show ¬ decide (op=6)=true by simp [h4]),h5]
   exact ⟨_,_,rfl⟩
  rw [if_neg (show ¬ decide (op=4)=true by simpa using h4)]
  simp only [obS]
  by_cases h5:op=5
  ·obtain ⟨ws2,h2⟩:=pH ws1
   rw [if_pos (decide_eq_true h5)]
   simp only [obS,if_true]
   rw [h2,obS,if_pos (decide_eq_true h5)]
   dsimp only
   rw [lY,obS,obS]
   dsimp only
   cases tkW ws2 4 (mkS [101,108,115,101]) with
   | false=>exact ⟨_,_,rfl⟩
   | true =>
    obtain ⟨ws3,h3⟩:=pH ws2.tail
    simp only [if_true]
    rw [h3]
    exact ⟨_,_,rfl⟩
  rw [if_neg (show ¬ decide (op=5)=true by simpa using h5)]
  simp only [obS]
  by_cases h6:op=6
  ·obtain ⟨ws2,h2⟩:=pH ws1
   rw [if_pos (decide_eq_true h6)]
   rw [h2,obS,if_neg (show ¬ decide (op=5)=true by simpa using h5)]
   exact ⟨_,_,rfl⟩
  ·obtain ⟨ws2,h2⟩:=ot ws1 3 (mkS [59])
   rw [if_neg (show ¬ decide (op=6)=true by simpa using h6),h2]
   exact ⟨_,_,rfl⟩
 | some a =>
  obtain ⟨e,q⟩:=a
  rw [hq1] at h1
  have su:=qn hq1
  have hvq:=su.le.vW hv
  replace h1:fD ⟨ws,false⟩ 1=some (e,⟨q,false⟩):=h1
  dsimp only
  rw [h1,obS,obS,bc8,obS]
  dsimp only
  by_cases h4:op=4
  ·rw [if_pos h4,if_pos (decide_eq_true h4)]
   have h2:=tx hvq (t:=mkS [44]) rfl (by decide)
   cases hq2:wT (mkS [44]) q with
   | none =>
    rw [hq2] at h2
    obtain ⟨ws2,h2⟩:=h2
    obtain ⟨e2,ws3,h3⟩:=q9 1 (by omega) ws2
    obtain ⟨ws4,h5⟩:=ot ws3 3 (mkS [59])
    rw [h2,obS,h3,obS,xC]
    simp only [obS,Option.bind_none]
    rw [if_neg (show ¬ decide (op=5)=true by simp [h4])]
    simp only [obS]
    rw [if_neg (show ¬ decide (op=6)=true by simp [h4]),h5]
    exact ⟨_,_,rfl⟩
   | some q2 =>
    rw [hq2] at h2
    have su2:=jT hq2
    have hv2:=su2.le.vW hvq
    replace h2:fC ⟨q,false⟩ 3 (mkS [44])=some ⟨q2,false⟩:=h2
    rw [h2,obS,obS]
    have h3:=bb8 hv2 (by have:=su.1;have:=su2.1;omega)
    cases hq3:rE q2 with
    | none =>
     rw [hq3] at h3
     obtain ⟨e2,ws3,h3⟩:=h3
     obtain ⟨ws4,h5⟩:=ot ws3 3 (mkS [59])
     rw [h3,obS,xC]
     simp only [obS,Option.bind_none]
     rw [if_neg (show ¬ decide (op=5)=true by simp [h4])]
     simp only [obS]
     rw [if_neg (show ¬ decide (op=6)=true by simp [h4]),h5]
     exact ⟨_,_,rfl⟩
    | some b =>
     obtain ⟨e2,q3⟩:=b
     rw [hq3] at h3
     have su3:=qn hq3
     have hv3:=su3.le.vW hv2
     replace h3:fD ⟨q2,false⟩ 1=some (e2,⟨q3,false⟩):=h3
     rw [h3,obS,obS,xC]
     simp only [obS]
     rw [if_neg (show ¬ decide (op=5)=true by simp [h4])]
     simp only [obS]
     rw [if_neg (show ¬ decide (op=6)=true by simp [h4])]
     have h5:=tx hv3 (t:=mkS [59]) rfl (by decide)
     cases hq4:wT (mkS [59]) q3 with
     | none =>
      rw [hq4] at h5
      obtain ⟨ws5,h5⟩:=h5
      rw [h5]
      exact ⟨_,_,rfl⟩
     | some q4 =>
      rw [hq4] at h5
      replace h5:fC ⟨q3,false⟩ 3 (mkS [59])=some ⟨q4,false⟩:=h5
      rw [h5,h4]
      rfl
  rw [if_neg h4,if_neg (show ¬ decide (op=4)=true by simpa using h4)]
  simp only [obS]
  by_cases h5:op=5
  ·rw [if_pos h5,if_pos (decide_eq_true h5)]
   simp only [obS,if_true]
   have h2:=hk q su
   unfold OkI at h2
   cases hq2:pK k q with
   | none =>
    rw [hq2] at h2
    obtain ⟨b,ws2,h2⟩:=h2
    rw [h2,obS,if_pos (decide_eq_true h5)]
    dsimp only
    rw [lY,obS,obS]
    dsimp only
    cases tkW ws2 4 (mkS [101,108,115,101]) with
    | false=>exact ⟨_,_,rfl⟩
    | true =>
     obtain ⟨ws3,h3⟩:=pH ws2.tail
     simp only [if_true]
     rw [h3]
     exact ⟨_,_,rfl⟩
   | some b =>
    obtain ⟨b,q2⟩:=b
    rw [hq2] at h2
    have su2:=(oS k).2.1 _ _ _ hq2
    have hv2:=su2.le.vW hvq
    replace h2:fc ⟨q,false⟩=some (b,⟨q2,false⟩):=h2
    rw [h2,obS,obS,if_pos (decide_eq_true h5)]
    dsimp only
    rw [lY,obS,obS]
    dsimp only
    rw [ap3 hv2 (t:=mkS [101,108,115,101]) (by decide)]
    show ImO (if isT q2 (mkS [101,108,115,101])=true then _ else _) _
    cases ht:isT q2 (mkS [101,108,115,101]) with
    | false =>
     simp only [Bool.false_eq_true,if_false,obS]
     rw [h5]
     rfl
    | true =>
     have hw:wT (mkS [101,108,115,101]) q2=some q2.tail:=by unfold wT;rw [ht];rfl
     have su3:=jT hw
     have h6:=hk q2.tail (jo.trans su3.le (jo.trans su2.le su))
     unfold OkI at h6
     simp only [if_true]
     cases hq3:pK k q2.tail with
     | none =>
      rw [hq3] at h6
      obtain ⟨c,ws3,h6⟩:=h6
      rw [h6]
      exact ⟨_,_,rfl⟩
     | some c =>
      rw [hq3] at h6
      replace h6:fc ⟨q2.tail,false⟩=some (c.1,⟨c.2,false⟩):=h6
      rw [h6,h5]
      rfl
  rw [if_neg h5,if_neg (show ¬ decide (op=5)=true by simpa using h5)]
  simp only [obS]
  by_cases h6:op=6
  ·rw [if_pos h6,if_pos (decide_eq_true h6)]
   have h2:=hk q su
   unfold OkI at h2
   cases hq2:pK k q with
   | none =>
    rw [hq2] at h2
    obtain ⟨b,ws2,h2⟩:=h2
    rw [h2,obS,if_neg (show ¬ decide (op=5)=true by simpa using h5)]
    exact ⟨_,_,rfl⟩
   | some b =>
    obtain ⟨b,q2⟩:=b
    rw [hq2] at h2
    replace h2:fc ⟨q,false⟩=some (b,⟨q2,false⟩):=h2
    rw [h2,obS,if_neg (show ¬ decide (op=5)=true by simpa using h5),h6]
    rfl
  rw [if_neg h6,if_neg (show ¬ decide (op=6)=true by simpa using h6)]
  have h2:=tx hvq (t:=mkS [59]) rfl (by decide)
  cases hq2:wT (mkS [59]) q with
  | none =>
   rw [hq2] at h2
   obtain ⟨ws2,h2⟩:=h2
   rw [h2]
   exact ⟨_,_,rfl⟩
  | some q2 =>
   rw [hq2] at h2
   replace h2:fC ⟨q,false⟩ 3 (mkS [59])=some ⟨q2,false⟩:=h2
   rw [h2]
   rfl
theorem al5 (ws : List eu) (b : Bool) : hU ⟨ws, b⟩ = (fb ⟨ws, b⟩).bind fun r => (if decide (r.1.kind = 4) then some (decide (0 < opK r.1.text)) else some false : Option Bool).bind fun s => Option.bind (if s then (if decide (opK r.1.text = 1) then (fa r.2).bind fun p => (fC p.2 3 (mkS [61])).bind fun q => some (q.list, q.bad, p.1) else some (r.2.list, r.2.bad, mkS []) : Option (List eu × Bool × Str)).bind fun u => some (.inl (u.1, u.2.1, opK r.1.text, u.2.2))
  else if decide (r.1.kind=1) then (fC r.2 3 (mkS [61])).bind λq=>some (.inl (q.list,q.bad,2,r.1.text)) else some (.inr ((⟨2,r.1.text,[],[],[]⟩:fB),(⟨r.2.list,true⟩:ez))):Option ((List eu × Bool × Int × Str) ⊕ (fB × ez))) (Sum.elim tlI some):=by
 rw [hU]
 simp only [am6]
 refine congrArg (Option.bind _) (funext λr=>?_)
 cases (if decide (r.1.kind=4) then some (decide (0<opK r.1.text)) else some false:Option Bool) with
 | none=>rfl
 | some s =>
  simp only [obS]
  cases (if s = true then (if decide (opK r.1.text = 1) then (fa r.2).bind fun p => (fC p.2 3 (mkS [61])).bind fun q => some (q.list, q.bad, p.1) else some (r.2.list, r.2.bad, mkS []) : Option (List eu × Bool × Str)).bind fun u => some (.inl (u.1, u.2.1, opK r.1.text, u.2.2))
   else if decide (r.1.kind=1) then (fC r.2 3 (mkS [61])).bind λq=>some (.inl (q.list,q.bad,2,r.1.text)) else some (.inr ((⟨2,r.1.text,[],[],[]⟩:fB),(⟨r.2.list,true⟩:ez))):Option ((List eu × Bool × Int × Str) ⊕ (fB × ez))) with
  | none=>rfl
  | some z=>cases z<;>rfl
theorem ak9 {k:Nat} {ws:List eu} (hv:vW ws) (hl:ws.length≤1000) (hk:∀ r,jo r ws→OkI k r):ImO (pS (k+1) ws) (hU ⟨ws,false⟩):=by
 rw [al5,ba4]
 cases ws with
 | nil =>
  rw [qp]
  exact ⟨_,_,rfl⟩
 | cons w r =>
  have hsr:jo r (w::r):=mH w r
  have hvr:=hsr.le.vW hv
  have hlr:r.length≤1000:=by have:=hsr.1;omega
  rw [oZ,obS]
  dsimp only
  by_cases h0:opK w.text=0
  ·have e1:(if decide (w.kind=4)=true then some (decide (0<opK w.text)) else some false:Option Bool)=some false:=by
    rw [h0];cases decide (w.kind=4)<;>rfl
   rw [e1,obS]
   simp only [Bool.false_eq_true,if_false]
   by_cases hw:w.kind=1
   ·rw [if_pos (decide_eq_true hw)]
    have h5:=tx hvr (t:=mkS [61]) rfl (by decide)
    cases hq:wT (mkS [61]) r with
    | none =>
     rw [hq] at h5
     obtain ⟨ws2,h5⟩:=h5
     have hh:kK (w::r)=none:=by simp [kK,h0,hw,hq]
     rw [h5,hh]
     exact vi ws2 2 w.text
    | some q =>
     rw [hq] at h5
     replace h5:fC ⟨r,false⟩ 3 (mkS [61])=some ⟨q,false⟩:=h5
     have hh:kK (w::r)=some (2,w.text,q):=by simp [kK,h0,hw,hq]
     have su:=jT hq
     rw [h5,hh]
     exact aa1 (ws:=q) (su.le.vW hvr) (by have:=su.1;omega) λx hx=>hk x (jo.trans hx.le (jo.trans su.le hsr))
   ·have hh : kK (w :: r) = none := by simp [kK, h0, hw]
    rw [if_neg (show ¬ decide (w.kind=1)=true by simpa using hw),hh]
    exact ⟨_,_,rfl⟩
  ·have hk4:w.kind=4:=yu (oQ hv) (at6 h0)
   have hpos:0<opK w.text:=by have:=xX w.text;omega
   rw [if_pos (decide_eq_true hk4),obS,if_pos (decide_eq_true hpos)]
   by_cases hl1:opK w.text=1
   ·rw [if_pos (decide_eq_true hl1)]
    have h4:=ak4 (ws:=r)
    cases hn:nT r with
    | none =>
     rw [hn] at h4
     obtain ⟨x,ws2,h4⟩:=h4
     obtain ⟨ws3,h5⟩:=ot ws2 3 (mkS [61])
     have hh:kK (w::r)=none:=by simp [kK,hl1,hn]
     rw [h4,obS,h5,hh]
     exact vi ws3 _ x
    | some p =>
     obtain ⟨x,p⟩:=p
     rw [hn] at h4
     have su1:=oo hn
     have hvp:=su1.le.vW hvr
     replace h4:fa ⟨r,false⟩=some (x,⟨p,false⟩):=h4
     rw [h4,obS]
     dsimp only
     have h5:=tx hvp (t:=mkS [61]) rfl (by decide)
     cases hq:wT (mkS [61]) p with
     | none =>
      rw [hq] at h5
      obtain ⟨ws2,h5⟩:=h5
      have hh:kK (w::r)=none:=by simp [kK,hl1,hn,hq]
      rw [h5,hh]
      exact vi ws2 _ x
     | some q =>
      rw [hq] at h5
      replace h5:fC ⟨p,false⟩ 3 (mkS [61])=some ⟨q,false⟩:=h5
      have hh:kK (w::r)=some (1,x,q):=by simp [kK,hl1,hn,hq]
      have su:=jT hq
      rw [h5,hh,hl1]
      exact aa1 (ws:=q) (su.le.vW hvp) (by have:=su.1;have:=su1.1;omega) λy hy=>hk y (jo.trans hy.le (jo.trans (su.le.trans su1.le) hsr))
   ·have hh : kK (w :: r) = some (opK w.text, mkS [], r) := by simp [kK, h0, hl1]
    rw [if_neg (show ¬ decide (opK w.text=1)=true by simpa using hl1),hh]
    exact aa1 (ws:=r) hvr hlr λx hx=>hk x (jo.trans hx.le hsr)
theorem sim:∀ k:Nat,(∀ ws,2*ws.length+2≤k→vW ws→ws.length≤1000→OkS k ws∧OkI k ws) ∧
  (∀ acc ws,2*ws.length+3≤k→vW ws→acc.length+ws.length≤1000 →
   (∀ (r0:fF) (n:Nat),r0.list.length≤1000→vW r0.list→AtW r0.list n ws→match pB k acc ws with
    | some p=>∃ (m:Nat) (w:eu),AtW r0.list m (w::p.2)∧w.text=mkS [125]∧gG (λ(uA:Int × (List fB))=>((if decide (0≤uA.1) then (fy (⟨r0.list,uA.1⟩:fF) (mkS [125])).bind λuD=>some (!(uD)) else some false:Option (Bool)).bind λuB=>if uB then (iZ (⟨r0.list,uA.1⟩:fF)).bind λuC=>(fq uA.2 ([uC.1]:List fB)).bind λuE=>some (.inl (uC.2.at_,uE)) else some (.inr (uA.1,uA.2)):Option ((Int × (List fB)) ⊕ (Int × (List fB))))) ((n:Int),acc)=some ((m:Int),p.1)
    | none=>∃ acc',gG (λ(uA:Int × (List fB))=>((if decide (0≤uA.1) then (fy (⟨r0.list,uA.1⟩:fF) (mkS [125])).bind λuD=>some (!(uD)) else some false:Option (Bool)).bind λuB=>if uB then (iZ (⟨r0.list,uA.1⟩:fF)).bind λuC=>(fq uA.2 ([uC.1]:List fB)).bind λuE=>some (.inl (uC.2.at_,uE)) else some (.inr (uA.1,uA.2)):Option ((Int × (List fB)) ⊕ (Int × (List fB))))) ((n:Int),acc)=some (-1,acc')) ∧
   (match pB k acc ws with
    | some p=>gG (λ(uA:(List eu) × Bool × (List fB))=>((if !(uA.2.1) then (fJ (⟨uA.1,uA.2.1⟩:ez) 3 (mkS [125])).bind λuD=>some (uD.2.list,uD.2.bad,!(uD.1)) else some (uA.1,uA.2.1,false):Option ((List eu) × Bool × Bool)).bind λuB=>if uB.2.2 then (hU (⟨uB.1,uB.2.1⟩:ez)).bind λuC=>(fq uA.2.2 ([uC.1]:List fB)).bind λuE=>some (.inl (uC.2.list,uC.2.bad,uE)) else some (.inr (uA.2.2,uB.1,uB.2.1)):Option (((List eu) × Bool × (List fB)) ⊕ ((List fB) × (List eu) × Bool)))) (ws,false,acc)=some (p.1,p.2,false)
    | none=>∃ acc' ws',gG (λ(uA:(List eu) × Bool × (List fB))=>((if !(uA.2.1) then (fJ (⟨uA.1,uA.2.1⟩:ez) 3 (mkS [125])).bind λuD=>some (uD.2.list,uD.2.bad,!(uD.1)) else some (uA.1,uA.2.1,false):Option ((List eu) × Bool × Bool)).bind λuB=>if uB.2.2 then (hU (⟨uB.1,uB.2.1⟩:ez)).bind λuC=>(fq uA.2.2 ([uC.1]:List fB)).bind λuE=>some (.inl (uC.2.list,uC.2.bad,uE)) else some (.inr (uA.2.2,uB.1,uB.2.1)):Option (((List eu) × Bool × (List fB)) ⊕ ((List fB) × (List eu) × Bool)))) (ws,false,acc)=some (acc',ws',true))) ∧
  (∀ ws,2*ws.length+2≤k→vW ws→ws.length≤1000→(∀ list (n:Nat),list.length≤1000→vW list→AtW list n ws→SpO list (pS k ws) (iZ ⟨list,(n:Int)⟩))∧ImO (pS k ws) (hU ⟨ws,false⟩)):=by
 intro k
 induction k with
 | zero=>exact ⟨λws h=>by omega,λacc ws h=>by omega,λws h=>by omega⟩
 | succ k ih =>
  obtain ⟨ihK,ihB,ihS⟩:=ih
  refine ⟨λws hk hv hl=>⟨λlist n hll hvl ha=>?_,?_⟩,λacc ws hk hv hl=>⟨λr0 n hll hvl ha=>?_,?_⟩,λws hk hv hl=>⟨λlist n hll hvl ha=>?_,?_⟩⟩
  ·
   rw [fx,pK]
   have h1:=qQ hll ha (mkS [123])
   cases hq:wT (mkS [123]) ws with
   | none =>
    rw [hq] at h1
    rw [show fH ⟨list,(n:Int)⟩ (mkS [123])=some ⟨list,-1⟩ from h1,obS]
    refine ⟨[],fT (fT (gH rfl) rfl) ?_⟩
    rw [mJ];rfl
   | some q =>
    rw [hq] at h1
    obtain ⟨m,a1,h1⟩:=h1
    have su:=jT hq
    have h2:=(ihB [] q (by have:=su.1;omega) (su.le.vW hv) (by have:=su.1;simp;omega)).1 ⟨list,(n:Int)⟩ m hll hvl a1
    rw [h1,obS,obS]
    cases hb:pB k [] q with
    | none =>
     rw [hb] at h2
     obtain ⟨acc',h2⟩:=h2
     refine ⟨acc',fT (fT h2 rfl) ?_⟩
     dsimp only
     rw [mJ];rfl
    | some p =>
     rw [hb] at h2
     obtain ⟨m2,w,a2,hw,h2⟩:=h2
     have h3:=qQ hll a2 (mkS [125])
     have hw2:wT (mkS [125]) (w::p.2)=some p.2:=by simp [wT,isT,hw]
     rw [hw2] at h3
     obtain ⟨m3,a3,h3⟩:=h3
     refine ⟨m3,a3,fT (fT h2 rfl) ?_⟩
     dsimp only
     rw [h3];rfl
  ·
   unfold OkI
   rw [fc,pK]
   have h1:=tx hv (t:=mkS [123]) rfl (by decide)
   cases hq:wT (mkS [123]) ws with
   | none =>
    rw [hq] at h1
    obtain ⟨ws',h1⟩:=h1
    rw [h1,obS]
    exact ⟨[],ws',fT (fT (gH rfl) rfl) rfl⟩
   | some q =>
    rw [hq] at h1
    have su:=jT hq
    replace h1:fC ⟨ws,false⟩ 3 (mkS [123])=some ⟨q,false⟩:=h1
    have h2:=(ihB [] q (by have:=su.1;omega) (su.le.vW hv) (by have:=su.1;simp;omega)).2
    rw [h1,obS,obS]
    cases hb:pB k [] q with
    | none =>
     rw [hb] at h2
     obtain ⟨acc',ws',h2⟩:=h2
     exact ⟨acc',ws',fT (fT h2 rfl) rfl⟩
    | some p =>
     rw [hb] at h2
     exact fT (fT h2 rfl) rfl
  ·
   rw [pB]
   have e0:decide (0≤(n:Int))=true:=by simp
   by_cases ht:isT ws (mkS [125])=true
   ·rw [if_pos ht]
    cases ws with
    | nil=>cases ht
    | cons w r =>
     refine ⟨n,w,ha,by simpa [isT] using ht,gH ?_⟩
     dsimp only
     rw [if_pos e0,sIs ha,ht];rfl
   ·have ht : isT ws (mkS [125]) = false := by simpa using ht
    rw [if_neg (by simp [ht])]
    have h1:=(ihS ws (by omega) hv (by omega)).1 r0.list n hll hvl ha
    cases hs:pS k ws with
    | none =>
     rw [hs] at h1
     obtain ⟨s,h1⟩:=h1
     refine ⟨acc++[s],?_⟩
     rw [iz (s':=(-1,acc++[s]))]
     ·exact gH rfl
     dsimp only
     rw [if_pos e0,sIs ha,ht]
     simp only [obS,Bool.not_false,if_true]
     rw [h1,obS,jH (show acc.length+[s].length≤2147483648 by simp;omega)];rfl
    | some p =>
     obtain ⟨s,q⟩:=p
     rw [hs] at h1
     obtain ⟨m,a1,h1⟩:=h1
     have su:=(oS k).1 _ _ _ hs
     have h2:=(ihB (acc++[s]) q (by have:=su.1;omega) (su.le.vW hv) (by have:=su.1;simp;omega)).1 r0 m hll hvl a1
     rw [obS]
     dsimp only
     have he:gG (λ(uA:Int × (List fB))=>((if decide (0≤uA.1) then (fy (⟨r0.list,uA.1⟩:fF) (mkS [125])).bind λuD=>some (!(uD)) else some false:Option (Bool)).bind λuB=>if uB then (iZ (⟨r0.list,uA.1⟩:fF)).bind λuC=>(fq uA.2 ([uC.1]:List fB)).bind λuE=>some (.inl (uC.2.at_,uE)) else some (.inr (uA.1,uA.2)):Option ((Int × (List fB)) ⊕ (Int × (List fB))))) ((n:Int),acc)=gG (λ(uA:Int × (List fB))=>((if decide (0≤uA.1) then (fy (⟨r0.list,uA.1⟩:fF) (mkS [125])).bind λuD=>some (!(uD)) else some false:Option (Bool)).bind λuB=>if uB then (iZ (⟨r0.list,uA.1⟩:fF)).bind λuC=>(fq uA.2 ([uC.1]:List fB)).bind λuE=>some (.inl (uC.2.at_,uE)) else some (.inr (uA.1,uA.2)):Option ((Int × (List fB)) ⊕ (Int × (List fB))))) ((m:Int),acc++[s]):=by
      refine iz ?_
      dsimp only
      rw [if_pos e0,sIs ha,ht]
      simp only [obS,Bool.not_false,if_true]
      rw [h1,obS,jH (show acc.length+[s].length≤2147483648 by simp;omega)];rfl
     rw [he]
     exact h2
  ·
   rw [pB]
   have htk:=qM hv (t:=mkS [125]) rfl (by decide)
   by_cases ht:isT ws (mkS [125])=true
   ·rw [if_pos ht]
    refine gH ?_
    dsimp only
    rw [if_pos (show (!false)=true from rfl),lY,htk,ht];rfl
   ·have ht : isT ws (mkS [125]) = false := by simpa using ht
    rw [if_neg (by simp [ht])]
    have h1:=(ihS ws (by omega) hv (by omega)).2
    cases hs:pS k ws with
    | none =>
     rw [hs] at h1
     obtain ⟨s,ws',h1⟩:=h1
     refine ⟨acc++[s],ws',?_⟩
     rw [iz (s':=(ws',true,acc++[s]))]
     ·exact gH rfl
     dsimp only
     rw [if_pos (show (!false)=true from rfl),lY,htk,ht]
     simp only [obS,Bool.not_false,if_true,Bool.false_eq_true,if_false]
     rw [h1,obS,jH (show acc.length+[s].length≤2147483648 by simp;omega)];rfl
    | some p =>
     obtain ⟨s,q⟩:=p
     rw [hs] at h1
     have su:=(oS k).1 _ _ _ hs
     have h2:=(ihB (acc++[s]) q (by have:=su.1;omega) (su.le.vW hv) (by have:=su.1;simp;omega)).2
     replace h1:hU ⟨ws,false⟩=some (s,⟨q,false⟩):=h1
     rw [obS]
     dsimp only
     have he:gG (λ(uA:(List eu) × Bool × (List fB))=>((if !(uA.2.1) then (fJ (⟨uA.1,uA.2.1⟩:ez) 3 (mkS [125])).bind λuD=>some (uD.2.list,uD.2.bad,!(uD.1)) else some (uA.1,uA.2.1,false):Option ((List eu) × Bool × Bool)).bind λuB=>if uB.2.2 then (hU (⟨uB.1,uB.2.1⟩:ez)).bind λuC=>(fq uA.2.2 ([uC.1]:List fB)).bind λuE=>some (.inl (uC.2.list,uC.2.bad,uE)) else some (.inr (uA.2.2,uB.1,uB.2.1)):Option (((List eu) × Bool × (List fB)) ⊕ ((List fB) × (List eu) × Bool)))) (ws,false,acc)=gG (λ(uA:(List eu) × Bool × (List fB))=>((if !(uA.2.1) then (fJ (⟨uA.1,uA.2.1⟩:ez) 3 (mkS [125])).bind λuD=>some (uD.2.list,uD.2.bad,!(uD.1)) else some (uA.1,uA.2.1,false):Option ((List eu) × Bool × Bool)).bind λuB=>if uB.2.2 then (hU (⟨uB.1,uB.2.1⟩:ez)).bind λuC=>(fq uA.2.2 ([uC.1]:List fB)).bind λuE=>some (.inl (uC.2.list,uC.2.bad,uE)) else some (.inr (uA.2.2,uB.1,uB.2.1)):Option (((List eu) × Bool × (List fB)) ⊕ ((List fB) × (List eu) × Bool)))) (q,false,acc++[s]):=by
      refine iz ?_
      dsimp only
      rw [if_pos (show (!false)=true from rfl),lY,htk,ht]
      simp only [obS,Bool.not_false,if_true,Bool.false_eq_true,if_false]
      rw [h1,obS,jH (show acc.length+[s].length≤2147483648 by simp;omega)];rfl
     rw [he]
     exact h2
  ·exact ao5 hll hvl ha λr hr list n g1 g2 g3=>(ihK r (by have:=hr.1;omega) (hr.le.vW hv) (by have:=hr.1;omega)).1 list n g1 g2 g3
  ·exact ak9 hv hl λr hr=>(ihK r (by have:=hr.1;omega) (hr.le.vW hv) (by have:=hr.1;omega)).2
end Prg
end Go.Wk
namespace Go.Wk
open Go
namespace Prg
set_option maxRecDepth 10000
theorem qq {P:List fB→Prop} (h:∀ l:List fB,(∀ s∈l,P s.body∧P s.else_)→P l):∀ l,P l:=by
 have:∀ (n:Nat) (l:List fB),SizeOf.sizeOf l≤n→P l:=by
  intro n
  induction n with
  | zero=>intro l he;cases l<;>simp at he
  | succ n ih =>
   intro l he
   refine h l λs hs=>?_
   have:=List.sizeOf_lt_of_mem hs
   cases s
   simp at he this ⊢
   exact ⟨ih _ (by omega),ih _ (by omega)⟩
 exact λl=>this _ l (Nat.le_refl _)
mutual
def zz:fB→Nat
 | ⟨_,_,_,b,e⟩=>1+kV b+kV e
def kV:List fB→Nat
 | []=>0
 | s::l=>zz s+kV l
end
theorem l8 (s:fB):zz s=1+kV s.body+kV s.else_:=by cases s;rw [zz]
theorem kS (s:fB) (l:List fB):kV (s::l)=zz s+kV l:=by rw [kV]
theorem jF:kV []=0:=by rw [kV]
theorem oG:∀ (l r:List fB),kV (l++r)=kV l+kV r
 | [],r=>by rw [jF,List.nil_append,Nat.zero_add]
 | k::l,r=>by rw [List.cons_append,kS,kS,oG l r];omega
def me:List Fn_→Nat
 | []=>0
 | f::l=>kV f.body+me l
theorem o9:∀ (l r:List Fn_),me (l++r)=me l+me r
 | [],r=>by simp [me]
 | k::l,r=>by simp [me,o9 l r];omega
def rN (op:Int):Nat:=if op=4 then 2 else 1
def hdB (s:fB):Bool:=inB s.op 1 8&&(decide (s.args.length=rN s.op)&&((if s.op=1∨s.op=2 then ic s.name else decide (s.name=mkS []))&&(s.args.all j6&&(decide (s.op=8→(s.args[0]?).map (·.op)=some 13)&&(decide (s.else_=[]∨s.op=5)&&decide (s.body=[]∨s.op=5∨s.op=6))))))
def kL:Nat→fB→Bool
 | 0,_=>false
 | d+1,s=>hdB s&&(s.body.all (kL d)&&s.else_.all (kL d))
def fnB (f:Fn_):Bool:=ic f.name&&(decide (f.params.length≤3)&&(f.params.all ic&&f.body.all (kL 4)))
def kY (p:fZ):Bool:=inB (p.fns.length:Int) 1 4&&(p.fns.all fnB&&decide (w64 (me p.fns:Int)≤40))
theorem ao2 (a:Int):w64 (w64 a)=w64 a:=by
 unfold w64;simp only [IntKind.wrap_i64];omega
theorem lh (a b:Int):w64 (w64 a+b)=w64 (a+b):=by
 unfold w64;simp only [IntKind.wrap_i64];omega
theorem vw (a b:Int):w64 (a+w64 b)=w64 (a+b):=by rw [Int.add_comm,lh,Int.add_comm]
theorem ar0:∀ l:List fB,jy l=some (w64 (kV l:Int)):=by
 intro l
 induction l using qq with
 | h l ih =>
  rw [jy]
  rcases jI (xs:=l) (body:=(λ(uB:Int) (uC:Int)=>((fW l uB).bind λuA=>(jy uA.body).bind λuD=>(jy uA.else_).bind λuE=>some (.inl (w64 ((w64 (uC+uD))+uE))):Option ((Int) ⊕ (Empty))))) (s:=(l.length:Int)) (λp s=>w64 s=w64 ((l.length:Int)+((kV p:Int) - p.length))∧(p=[]→s=l.length)∧(p≠[]→w64 s=s)) (λ_=>False)
   ⟨by rw [jF]; simp, fun _ => rfl, fun h => absurd rfl h⟩ (fun p x r s he ⟨h1, h2, h3⟩ => .inl (by
    obtain ⟨g1,g2⟩:=ih x (by rw [he];simp)
    refine ⟨w64 (w64 (s+w64 (kV x.body:Int))+w64 (kV x.else_:Int)),?_,?_,λh=>absurd h (by simp),λ_=>ao2 _⟩
    ·have hg : fW l (p.length : Int) = some x := by rw [he, iO]
     rw [hg,obS,g1,obS,g2,obS]
    ·rw [ao2,vw,lh,Int.add_right_comm,vw,Int.add_assoc,← lh s,h1,lh,oG,kS,jF,l8]
     congr 1
     simp
     omega)) with ⟨s,h1,h2,h3,h4⟩ | ⟨_,_,h⟩
  ·rw [h1]
   simp only [obS,Sum.elim_inl,osI]
   by_cases h0:l=[]
   ·rw [h3 h0,h0,jF];rfl
   ·rw [← h4 h0,h2];congr 1;omega
  ·exact h.elim
theorem ay9 (p:fZ):o7 p=some (w64 (me p.fns:Int)):=by
 unfold o7
 rcases jI (xs:=p.fns) (body:=(λ(uA:Int) (uB:Int)=>((fW p.fns uA).bind λuC=>(jy uC.body).bind λuD=>some (.inl (w64 (uB+uD))):Option ((Int) ⊕ (Empty))))) (s:=(0:Int)) (λl s=>s=w64 (me l:Int)) (λ_=>False) rfl (λl x r s he h=>.inl (by
   refine ⟨w64 (s+w64 (kV x.body:Int)),?_,?_⟩
   ·have hg : fW p.fns (l.length : Int) = some x := by rw [he, iO]
    rw [hg,obS,ar0,obS]
   ·rw [h,vw,lh,o9]
    congr 1)) with ⟨s,h1,h2⟩ | ⟨_,_,h⟩
 ·rw [h1,h2];rfl
 ·exact h.elim
theorem an6 {l:List ey} {X:Type} {e:X}:forN (S:=Unit) (X:=X) (λi _=>(fW l i).bind λx=>(lR x).bind λb=>if !b then some (.inr e) else some (.inl ())) ((l.length:Int) - 0).toNat 0 ()=if l.all j6 then some (.inl ()) else some (.inr e):=by
 rw [la (xs:=l) (λk=>!j6 k) e (λp x r he=>by rw [he,iO,obS,ao7,obS])]
 have:l.any (λk=>!j6 k)=!l.all j6:=by rw [List.not_all_eq_any_not]
 rw [this]
 cases l.all j6<;>rfl
theorem as3 {l:List ey} {X:Type} {e:X}:forN (S:=Unit) (X:=X) (λi _=>(fW l i).bind λx=>(lM x).bind λb=>if !b then some (.inr e) else some (.inl ())) ((l.length:Int) - 0).toNat 0 ()=if l.all j6 then some (.inl ()) else some (.inr e):=by
 rw [la (xs:=l) (λk=>!j6 k) e (λp x r he=>by rw [he,iO,obS,av3,obS])]
 have:l.any (λk=>!j6 k)=!l.all j6:=by rw [List.not_all_eq_any_not]
 rw [this]
 cases l.all j6<;>rfl
theorem tJ {l:List fB} {d:Int} {p:fB→Bool} (h:∀ s∈l,mL s d=some (p s)):jv l d=some (l.all p):=by
 rw [jv,la (xs:=l) (body:=(λ(uA:Int) (uD:Unit)=>((fW l uA).bind λuB=>(mL uB d).bind λuC=>if !(uC) then some (.inr false) else some (.inl ()):Option ((Unit) ⊕ (Bool))))) (λk=>!p k) false (λq x r he=>by rw [he,iO,obS,h x (by rw [he];simp),obS])]
 have:l.any (λk=>!p k)=!l.all p:=by rw [List.not_all_eq_any_not]
 rw [this]
 cases l.all p<;>rfl
theorem bi6 {α:Type} {xs:List α} {f:α→Option Bool} {p:α→Bool} (hf:∀ x∈xs,f x=some (p x)):∃ i:Int,((forN (S:=Unit) (X:=Int) (λi _=>(fW xs i).bind λx=>(f x).bind λb=>if b then some (.inr i) else some (.inl ())) ((xs.length:Int) - 0).toNat 0 ()).bind (Sum.elim (λ_=>some (-1)) (λe=>some e)))=some i∧decide (0≤i)=xs.any p:=by
 rcases jI (xs:=xs) (body:=λi _=>(fW xs i).bind λx=>(f x).bind λb=>if b then some (.inr i) else some (.inl ())) (s:=()) (λl _=>l.any p=false) (λ(i:Int)=>0≤i∧xs.any p=true) rfl (λl x r s he h=>by
  have hfx:=hf x (by rw [he];simp)
  rw [he,iO,obS,hfx,obS]
  cases hp:p x with
  | true=>exact .inr ⟨_,rfl,by omega,by simp [hp]⟩
  | false=>exact .inl ⟨(),rfl,by simp [h,hp]⟩) with ⟨s,h1,h2⟩ | ⟨i,h1,h2,h3⟩
 ·exact ⟨-1,by rw [h1];rfl,by rw [h2];rfl⟩
 ·exact ⟨i,by rw [h1];rfl,by rw [h3];simp [h2]⟩
theorem tn {l:List fB} {n:Int} {p:fB→Bool} (h:∀ s∈l,nD s n=some (p s)):jR l n=some (l.all p):=by
 rw [jR]
 unfold gU gq
 obtain ⟨i,h1,h2⟩:=bi6 (xs:=l) (f:=λy0=>nN y0 n) (p:=λs=>!p s) (λs hs=>by rw [nN,h s hs];rfl)
 rw [h1,obS,obS,h2]
 have:l.any (λk=>!p k)=!l.all p:=by rw [List.not_all_eq_any_not]
 rw [this,Bool.not_not]
theorem yT:∀ (l:List fB) (d:Nat),d≤4→(∀ s∈l,mL s (d:Int)=some (kL d s)∧nD s (5 - (d:Int))=some (kL d s)):=by
 intro l
 induction l using qq with
 | h l ih =>
  intro d hd s hs
  cases d with
  | zero =>
   constructor
   ·rw [mL];rfl
   ·rw [nD,kL]
    unfold lx
    by_cases h1:s.op=1<;>by_cases h2:s.op=2<;>by_cases h3:s.op=3<;>by_cases h7:s.op=7<;>by_cases h8:s.op=8<;>by_cases h4:s.op=4<;>by_cases h5:s.op=5<;>by_cases h6:s.op=6<;>first | omega | simp [h1,h2,h3,h4,h5,h6,h7,h8]
  | succ d =>
   obtain ⟨ib,ie⟩:=ih s hs
   have sb:jv s.body (w64 (((d+1:Nat):Int) - 1))=some (s.body.all (kL d)):=by
    rw [hO (by omega) (by omega),show ((d+1:Nat):Int) - 1=(d:Int) by omega]
    exact tJ λx hx=>(ib d (by omega) x hx).1
   have se:jv s.else_ (w64 (((d+1:Nat):Int) - 1))=some (s.else_.all (kL d)):=by
    rw [hO (by omega) (by omega),show ((d+1:Nat):Int) - 1=(d:Int) by omega]
    exact tJ λx hx=>(ie d (by omega) x hx).1
   have hb:jR s.body (w64 (5 - ((d+1:Nat):Int)+1))=some (s.body.all (kL d)):=by
    rw [hO (by omega) (by omega),show 5 - ((d+1:Nat):Int)+1=5 - (d:Int) by omega]
    exact tn λx hx=>(ib d (by omega) x hx).2
   have he:jR s.else_ (w64 (5 - ((d+1:Nat):Int)+1))=some (s.else_.all (kL d)):=by
    rw [hO (by omega) (by omega),show 5 - ((d+1:Nat):Int)+1=5 - (d:Int) by omega]
    exact tn λx hx=>(ie d (by omega) x hx).2
   have c0:decide (((d+1:Nat):Int)<1)=false:=by simp;omega
   have c0':decide ((4:Int)<5 - ((d+1:Nat):Int))=false:=by simp;omega
   have c5:∀ b:Int,decide (0<b)=decide (0<b):=λ_=>rfl
   have eB:decide (0<(s.body.length:Int))=!decide (s.body=[]):=by cases s.body<;>simp
   have eE:decide (0<(s.else_.length:Int))=!decide (s.else_=[]):=by cases s.else_<;>simp
   have hN:s.name=mkS []→ic s.name=false:=λh=>by rw [h];rfl
   have c3:(if decide (decide (s.op=1∨s.op=2)≠ic s.name)=true then some true else if (!decide (s.op=1∨s.op=2))=true then some (decide (s.name≠mkS [])) else some false:Option Bool)=some (!(if s.op=1∨s.op=2 then ic s.name else decide (s.name=mkS []))):=by
    by_cases h:s.op=1∨s.op=2<;>by_cases h2:s.name=mkS []
    ·rw [hN h2];simp [h]
    ·cases ic s.name<;>simp [h]
    ·rw [hN h2];simp [h,h2]
    ·cases ic s.name<;>simp [h,h2]
   have c4:s.args.length=rN s.op→(if decide (s.op=8)=true then (fW s.args 0).bind λx=>some (decide (x.op≠13)) else some false:Option Bool)=some (!decide (s.op=8→(s.args[0]?).map (·.op)=some 13)):=by
    intro hl
    by_cases h:s.op=8
    ·have h1 : s.args.length = 1 := by rw [hl, h]; rfl
     obtain ⟨a,ha⟩:∃ a,s.args=[a]:=List.length_eq_one_iff.1 h1
     rw [ha]
     simp [h,fW]
    ·simp [h]
   constructor
   ·have c6:(if decide (0<(s.else_.length:Int))=true then if decide (s.op≠5)=true then some true else if decide (0<(s.body.length:Int))=true then some false else some false else if decide (0<(s.body.length:Int))=true then if decide (s.op≠5)=true then some (decide (s.op≠6)) else some false else some false:Option Bool)=some (!(decide (s.else_=[]∨s.op=5)&&decide (s.body=[]∨s.op=5∨s.op=6))):=by
     rw [eB,eE]
     by_cases h1:s.else_=[]<;>by_cases h2:s.body=[]<;>by_cases h3:s.op=5<;>by_cases h4:s.op=6<;>simp [h1,h2,h3,h4]
    rw [mL,kL,c0]
    simp only [vc,qo,obS,sb,se,an6,Bool.false_eq_true,if_false]
    unfold hdB
    cases inB s.op 1 8 with
    | false=>rfl
    | true =>
    have ea:oI s.op=some (rN s.op:Int):=by
     unfold oI rN
     by_cases h:s.op=4<;>simp [h]
    rw [ea]
    simp only [Bool.not_true,Bool.false_eq_true,if_false,obS,Bool.true_and]
    by_cases hl:s.args.length=rN s.op
    ·have e1 : decide ((s.args.length : Int) ≠ (rN s.op : Int)) = false := by simp; omega
     have e2:(if decide (s.op=1)=true then some true else some (decide (s.op=2)):Option Bool)=some (decide (s.op=1∨s.op=2)):=by by_cases h:s.op=1<;>simp [h]
     rw [e1,e2,c4 hl,c6]
     simp only [Bool.false_eq_true,if_false,obS,c3,hl,decide_true,Bool.true_and]
     cases (if s.op=1∨s.op=2 then ic s.name else decide (s.name=mkS [])) with
     | false=>rfl
     | true =>
     cases s.args.all j6 with
     | false=>rfl
     | true =>
     cases decide (s.op=8→(s.args[0]?).map (·.op)=some 13) with
     | false=>rfl
     | true =>
     cases decide (s.else_=[]∨s.op=5) with
     | false=>rfl
     | true =>
     cases decide (s.body=[]∨s.op=5∨s.op=6) with
     | false=>rfl
     | true =>
     cases s.body.all (kL d)<;>cases s.else_.all (kL d)<;>rfl
    ·have e1 : decide ((s.args.length : Int) ≠ (rN s.op : Int)) = true := by simp; omega
     rw [e1,decide_eq_false hl];rfl
   ·have ea:lx s.op=some (if inB s.op 1 8 then ((rN s.op:Int),decide (s.op=1∨s.op=2),decide (s.op=5∨s.op=6),decide (s.op=5)) else (-1,false,false,false)):=by
     by_cases h:inB s.op 1 8=true
     ·have:s.op=1∨s.op=2∨s.op=3∨s.op=4∨s.op=5∨s.op=6∨s.op=7∨s.op=8:=by
       unfold inB at h
       simp at h
       omega
      rcases this with h | h | h | h | h | h | h | h<;>rw [h]<;>rfl
     ·have h : inB s.op 1 8 = false := by simpa using h
      rw [h]
      have h':s.op≠1∧s.op≠2∧s.op≠3∧s.op≠4∧s.op≠5∧s.op≠6∧s.op≠7∧s.op≠8:=by
       unfold inB at h
       simp at h
       omega
      unfold lx
      simp [h']
    rw [nD,kL,ea,obS,c0']
    simp only [sT,obS,hb,he,as3,Bool.false_eq_true,if_false]
    unfold hdB
    cases inB s.op 1 8 with
    | false =>
     have e1:decide ((s.args.length:Int)≠-1)=true:=by simp
     simp only [Bool.false_eq_true,if_false,e1,if_true,obS,Bool.false_and]
    | true =>
    simp only [if_true,Bool.true_and]
    by_cases hl:s.args.length=rN s.op
    ·have e1 : decide ((s.args.length : Int) ≠ (rN s.op : Int)) = false := by simp; omega
     have e3:decide (s.op=5∨s.op=6)=true→s.else_=s.else_:=λ_=>rfl
     rw [e1,c4 hl,eB,eE]
     simp only [Bool.false_eq_true,if_false,hl,decide_true,Bool.true_and]
     by_cases hn:s.op=1∨s.op=2
     ·have h5 : ¬ s.op = 5 := by omega
      have h6:¬ s.op=6:=by omega
      have h8:¬ s.op=8:=by omega
      simp only [hn,h5,h6,h8,decide_true,decide_false,if_true,or_self,or_false,false_implies,Bool.not_true,Bool.not_false,Bool.false_eq_true,if_false,obS,Bool.true_and]
      cases ic s.name with
      | false=>rfl
      | true =>
      by_cases p1:s.body=[]
      ·by_cases p2:s.else_=[]
       ·simp only [p1,p2,decide_true,Bool.not_true,Bool.not_false,Bool.false_eq_true,if_false,obS,if_true,Bool.and_true,Bool.true_and]
        cases s.args.all j6<;>rfl
       ·simp only [p1,p2,decide_true,decide_false,Bool.not_true,Bool.not_false,Bool.false_eq_true,if_false,obS,if_true,Bool.and_false,Bool.false_and,Bool.and_true,Bool.true_and]
      ·simp only [p1,decide_false,Bool.not_true,Bool.not_false,Bool.false_eq_true,if_false,obS,if_true,Bool.and_false,Bool.false_and,Bool.and_true,Bool.true_and]
     ·simp only [hn,decide_false,Bool.not_false,Bool.false_eq_true,if_false,obS,if_true]
      by_cases p0:s.name=mkS []
      ·simp only [p0,ne_eq,not_true_eq_false,decide_false,decide_true,Bool.false_eq_true,if_false,obS,Bool.true_and]
       by_cases q5:s.op=5
       ·have h8 : ¬ s.op = 8 := by omega
        simp only [q5,true_or,or_true,decide_true,Bool.not_true,Bool.false_eq_true,if_false,obS,Bool.and_true,Bool.not_false,show ((5:Int)=8)=False from by simp,false_implies,show ((5:Int)=6)=False from by simp]
        cases s.args.all j6 with
        | false=>rfl
        | true=>cases s.body.all (kL d)<;>cases s.else_.all (kL d)<;>rfl
       ·by_cases q6:s.op=6
        ·simp only [q6, or_true, decide_true, Bool.not_true, Bool.false_eq_true, if_false, obS, show ((6 : Int) = 8) = False from by simp, show ((6 : Int) = 5) = False from by simp, false_implies, decide_false, Bool.not_false, if_true, or_false, false_or]
         by_cases p2:s.else_=[]
         ·simp only [p2,decide_true,Bool.not_true,Bool.false_eq_true,if_false,obS,Bool.true_and]
          cases s.args.all j6 with
          | false=>rfl
          | true=>cases s.body.all (kL d)<;>rfl
         ·simp only [p2,decide_false,Bool.not_false,if_true,obS,Bool.false_and,Bool.and_false,Bool.true_and]
        ·simp only [q5,q6,or_false,decide_false,Bool.not_false,if_true,obS]
         by_cases p1:s.body=[]
         ·by_cases p2:s.else_=[]
          ·simp only [p1,p2,decide_true,Bool.not_true,Bool.not_false,Bool.false_eq_true,if_false,obS,Bool.and_true,Bool.true_and]
           cases decide (s.op=8→(s.args[0]?).map (·.op)=some 13) with
           | false=>simp
           | true=>cases s.args.all j6<;>rfl
          ·simp only [p1,p2,decide_true,decide_false,Bool.not_true,Bool.not_false,Bool.false_eq_true,if_false,if_true,obS,Bool.and_false,Bool.false_and]
         ·simp only [p1,decide_false,Bool.not_false,if_true,obS,Bool.and_false,Bool.false_and]
      ·simp only [p0,ne_eq,not_false_eq_true,decide_true,decide_false,if_true,obS,Bool.false_and]
    ·have e1 : decide ((s.args.length : Int) ≠ (rN s.op : Int)) = true := by simp; omega
     rw [e1,decide_eq_false hl];rfl
end Prg
end Go.Wk
namespace Go.Wk
open Go
namespace Prg
set_option maxRecDepth 10000
theorem bf5:∀ (l:List fB) (nest c d:Int),∃ r,km l nest (c,d)=some r∧w64 r.1=w64 (c+kV l)∧(w64 c=c→w64 r.1=r.1):=by
 intro l
 induction l using qq with
 | h l ih =>
  intro nest c d
  rw [km]
  rcases jI (xs:=l) (body:=(λ(uC:Int) (uA:Int × Int)=>((fW l uC).bind λuB=>(km uB.body (w64 (nest+1)) (w64 (uA.1+1),qV uA.2 nest)).bind λuD=>(km uB.else_ (w64 (nest+1)) uD).bind λuE=>some (.inl uE):Option ((Int × Int) ⊕ (Empty))))) (s:=(c,d)) (λp s=>w64 s.1=w64 (c+kV p)∧(w64 c=c→w64 s.1=s.1)) (λ_=>False)
   ⟨by rw [jF]; simp, fun h => h⟩ (fun p x r s he ⟨h1, h2⟩ => .inl (by
    obtain ⟨g1,g2⟩:=ih x (by rw [he];simp)
    obtain ⟨r1,a1,a2,a3⟩:=g1 (w64 (nest+1)) (w64 (s.1+1)) (qV s.2 nest)
    obtain ⟨r2,b1,b2,b3⟩:=g2 (w64 (nest+1)) r1.1 r1.2
    have hg:fW l (p.length:Int)=some x:=by rw [he,iO]
    refine ⟨r2,?_,?_,λ_=>b3 (a3 (ao2 _))⟩
    ·rw [hg,obS,a1,obS,b1,obS]
    ·rw [b2,← lh,a2,lh,Int.add_assoc,lh,Int.add_assoc,← lh s.1,h1,lh,oG,kS,jF,l8]
     congr 1
     simp
     omega)) with ⟨s,h1,h2,h3⟩ | ⟨_,_,h⟩
  ·exact ⟨s,by rw [h1];rfl,h2,h3⟩
  ·exact h.elim
theorem zu (p:fZ):∃ d,mU p=some (w64 (me p.fns:Int),d):=by
 unfold mU
 rcases jI (xs:=p.fns) (body:=(λ(uC:Int) (uA:Int × Int)=>((fW p.fns uC).bind λuD=>(km uD.body 1 (uA.1,uA.2)).bind λuB=>some (.inl (uB.1,uB.2)):Option ((Int × Int) ⊕ (Empty))))) (s:=((0:Int),(0:Int))) (λl s=>w64 s.1=w64 (me l:Int)∧w64 s.1=s.1) (λ_=>False)
  ⟨rfl,rfl⟩ (λl x r s he ⟨h1,h2⟩=>.inl (by
   obtain ⟨r1,a1,a2,a3⟩:=bf5 x.body 1 s.1 s.2
   have hg:fW p.fns (l.length:Int)=some x:=by rw [he,iO]
   refine ⟨(r1.1,r1.2),?_,?_,a3 h2⟩
   ·rw [hg,obS,a1,obS]
   ·show w64 r1.1 = _
    rw [a2,← lh,h1,lh,o9]
    congr 1)) with ⟨s,h1,h2,h3⟩ | ⟨_,_,h⟩
 ·exact ⟨s.2,by rw [h1,← h2,h3];rfl⟩
 ·exact h.elim
theorem ap5 {l:List Str} {X:Type} {e:X}:forN (S:=Unit) (X:=X) (λi _=>(fW l i).bind λx=>(kb x).bind λb=>if !b then some (.inr e) else some (.inl ())) ((l.length:Int) - 0).toNat 0 ()=if l.all ic then some (.inl ()) else some (.inr e):=by
 rw [la (xs:=l) (λk=>!ic k) e (λp x r he=>by rw [he,iO,obS,qo,obS])]
 have:l.any (λk=>!ic k)=!l.all ic:=by rw [List.not_all_eq_any_not]
 rw [this]
 cases l.all ic<;>rfl
theorem bg4 (f:Fn_):o5 f=some (fnB f):=by
 unfold o5 fnB
 rw [ap5]
 have h1:jv f.body 4=some (f.body.all (kL 4)):=tJ λs hs=>(yT f.body 4 (by omega) s hs).1
 rw [qo,h1]
 have e1:decide ((f.params.length:Int)≤3)=decide (f.params.length≤3):=by
  rw [decide_eq_decide];omega
 rw [e1]
 cases f.params.all ic with
 | false=>cases ic f.name<;>cases decide (f.params.length≤3)<;>rfl
 | true=>cases ic f.name<;>cases decide (f.params.length≤3)<;>cases f.body.all (kL 4)<;>rfl
theorem yr (p:fZ):kR p=some (kY p):=by
 unfold kR kY
 rw [vc,obS,ay9]
 rw [la (xs:=p.fns) (body:=(λ(uA:Int) (uD:Unit)=>((fW p.fns uA).bind λuB=>(o5 uB).bind λuC=>if !(uC) then some (.inr false) else some (.inl ()):Option ((Unit) ⊕ (Bool))))) (λf=>!fnB f) false (λl x r he=>by
  have hg:fW p.fns (l.length:Int)=some x:=by rw [he,iO]
  rw [hg,obS,bg4,obS])]
 have:p.fns.any (λk=>!fnB k)=!p.fns.all fnB:=by rw [List.not_all_eq_any_not]
 rw [this]
 cases inB (p.fns.length:Int) 1 4 with
 | false=>rfl
 | true=>cases p.fns.all fnB<;>rfl
theorem bh6 (f:Fn_):((kA f.name).bind λr=>if !r then some true else if decide (3<(f.params.length:Int)) then some true else (gh f.params (λy0=>iq y0)).bind λr2=>if r2 then some true else (jR f.body 1).bind λr3=>some (!r3))=some (!fnB f):=by
 have h1:jR f.body 1=some (f.body.all (kL 4)):=tn λs hs=>(yT f.body 4 (by omega) s hs).2
 have h2:gh f.params (λy0=>iq y0)=some (!f.params.all ic):=by
  unfold gh jG
  obtain ⟨i,g1,g2⟩:=bi6 (xs:=f.params) (f:=λy0=>iq y0) (p:=λs=>!ic s) (λs _=>by unfold iq;rw [sT];rfl)
  rw [g1,obS,g2]
  have:f.params.any (λk=>!ic k)=!f.params.all ic:=by rw [List.not_all_eq_any_not]
  rw [this]
 have e1:decide (3<(f.params.length:Int))=!decide (f.params.length≤3):=by
  by_cases h:f.params.length≤3
  ·rw [decide_eq_true h];simp;omega
  ·rw [decide_eq_false h];simp;omega
 rw [sT,obS,h1,h2,e1]
 unfold fnB
 cases ic f.name<;>cases decide (f.params.length≤3)<;>cases f.params.all ic<;>cases f.body.all (kL 4)<;>rfl
theorem wZ (p:fZ):jx p=some (kY p):=by
 unfold jx kY
 obtain ⟨d,hm⟩:=zu p
 rw [rF,obS,hm]
 rw [la (xs:=p.fns) (body:=(λ(uB:Int) (uG:Unit)=>((fW p.fns uB).bind λuA=>((kA uA.name).bind λuC=>if !(uC) then some true else if decide (3<((uA.params.length:Int))) then some true else (gh uA.params (λy0=>iq y0)).bind λuD=>if uD then some true else (jR uA.body 1).bind λuE=>some (!(uE)):Option (Bool)).bind λuF=>if uF then some (.inr false) else some (.inl ()):Option ((Unit) ⊕ (Bool))))) (λf=>!fnB f) false (λl x r he=>by
  have hg:fW p.fns (l.length:Int)=some x:=by rw [he,iO]
  rw [hg,obS,bh6,obS])]
 have:p.fns.any (λk=>!fnB k)=!p.fns.all fnB:=by rw [List.not_all_eq_any_not]
 rw [this]
 cases inB (p.fns.length:Int) 1 4 with
 | false=>rfl
 | true=>cases p.fns.all fnB<;>rfl
end Prg
end Go.Wk
namespace Go.Wk
open Go
namespace Prg
set_option maxRecDepth 10000
def GIn (g:ft) (p:Int):Prop:=(∀ s∈g.vars,ic s=true)∧(g.vars.length:Int)≤p+3∧(∀ f∈g.fns,f.params.length≤3)∧(-1≤g.next_∧g.next_≤p)∧(-3*p - 10≤g.left∧g.left≤1000)
def yo {A:Type} (b:List UInt8) (g:ft) (p lo hi c:Int) (Q:A→Prop) (r:A × ft × fG):Prop:=(r.2.2.b=b∧lo≤r.2.2.p∧r.2.2.p≤hi)∧(GIn r.2.1 r.2.2.p∧r.2.1.fns=g.fns∧g.left - 3*(r.2.2.p - p)+c≤r.2.1.left)∧Q r.1
theorem DrG.bind {A B:Type} {o:Option (A × ft × fG)} {b:List UInt8} {g:ft} {p lo hi c:Int} {P:A→Prop} {Q:B→Prop} {f:A × ft × fG→Option B} (h:Dr o (yo b g p lo hi c P)) (k:∀ v g' q,lo≤q→q≤hi→GIn g' q→g'.fns=g.fns→g.left - 3*(q - p)+c≤g'.left→P v→Dr (f (v,g',⟨b,q⟩)) Q):Dr (Option.bind o f) Q:=by
 obtain ⟨⟨v,g',⟨b',q⟩⟩,h1,⟨h2,h3,h4⟩,⟨h5,h6,h10⟩,h7⟩:=h
 simp only at h2 h3 h4 h5 h6 h7 h10
 subst h2
 obtain ⟨c,h8,h9⟩:=k v g' q h3 h4 h5 h6 h10 h7
 exact ⟨c,fT h1 h8,h9⟩
section
variable {b:List UInt8} (hb:b.length≤2000)
theorem aq3 {g:ft} {p:Int} (hb:b.length≤2000) (h0:0≤p) (h1:p≤800000) (hg:GIn g p):Dr (kn g ⟨b,p⟩) (yo b g p (p+1) (p+2) 3 (λs=>ic s=true)):=by
 obtain ⟨g1,g2,g3,⟨g4,g5⟩,g6,g7⟩:=hg
 unfold kn
 have ew:w64 (g.next_+1)=g.next_+1:=hO (by omega) (by omega)
 refine Dr.bind (P:=λs:Int × Bool=>s.1=p+1∧(s.2=true→0<g.vars.length)) ?_ λs hs=>?_
 ·refine pk hb h0 (by omega) fun v _ _ => ?_
  dsimp only
  refine Dr.ite (λ_=>Dr.some ⟨rfl,λh=>?_⟩) λ_=>Dr.some ⟨rfl,λh=>by cases h⟩
  have:=of_decide_eq_true h
  omega
 obtain ⟨s1,s2⟩:=hs
 dsimp only
 rw [s1,ew]
 refine Dr.ite (λhc=>?_) λ_=>?_
 ·refine ofx hb (s2 hc) (by omega) (by omega) λv hv=>Dr.some ⟨⟨rfl,by dsimp only;omega,by dsimp only;omega⟩,⟨⟨g1,by dsimp only;omega,g3,⟨by dsimp only;omega,by dsimp only;omega⟩,by dsimp only;omega,by dsimp only;omega⟩,rfl,by dsimp only;omega⟩,g1 v hv⟩
 ·obtain ⟨m,hm,hm2⟩:∃ m:Nat,g.next_+1=(m:Int)∧(g.next_+1).tmod 24=((m % 24:Nat):Int):=by
   refine ⟨(g.next_+1).toNat,by omega,?_⟩
   have:g.next_+1=((g.next_+1).toNat:Int):=by omega
   rw [this]
   have e:=Int.tmod_eq_emod_of_nonneg (a:=(((g.next_+1).toNat:Nat):Int)) (b:=24) (by omega)
   rw [e]
   omega
  have hlt:m % 24<24:=Nat.mod_lt _ (by decide)
  rw [hm2,hO (by omega) (by omega)]
  generalize m % 24=j at hlt
  have key:∀ j:Fin 24,∃ s:Str,ox (mkS [97,98,99,100,101,103,104,105,106,107,108,109,110,112,113,114,115,116,117,118,119,120,121,122]) ((j.val:Nat):Int) (((j.val:Nat):Int)+1)=some s∧ic s=true:=by
   intro j
   match j with
   | ⟨0,_⟩=>exact ⟨_,rfl,rfl⟩
   | ⟨1,_⟩=>exact ⟨_,rfl,rfl⟩
   | ⟨2,_⟩=>exact ⟨_,rfl,rfl⟩
   | ⟨3,_⟩=>exact ⟨_,rfl,rfl⟩
   | ⟨4,_⟩=>exact ⟨_,rfl,rfl⟩
   | ⟨5,_⟩=>exact ⟨_,rfl,rfl⟩
   | ⟨6,_⟩=>exact ⟨_,rfl,rfl⟩
   | ⟨7,_⟩=>exact ⟨_,rfl,rfl⟩
   | ⟨8,_⟩=>exact ⟨_,rfl,rfl⟩
   | ⟨9,_⟩=>exact ⟨_,rfl,rfl⟩
   | ⟨10,_⟩=>exact ⟨_,rfl,rfl⟩
   | ⟨11,_⟩=>exact ⟨_,rfl,rfl⟩
   | ⟨12,_⟩=>exact ⟨_,rfl,rfl⟩
   | ⟨13,_⟩=>exact ⟨_,rfl,rfl⟩
   | ⟨14,_⟩=>exact ⟨_,rfl,rfl⟩
   | ⟨15,_⟩=>exact ⟨_,rfl,rfl⟩
   | ⟨16,_⟩=>exact ⟨_,rfl,rfl⟩
   | ⟨17,_⟩=>exact ⟨_,rfl,rfl⟩
   | ⟨18,_⟩=>exact ⟨_,rfl,rfl⟩
   | ⟨19,_⟩=>exact ⟨_,rfl,rfl⟩
   | ⟨20,_⟩=>exact ⟨_,rfl,rfl⟩
   | ⟨21,_⟩=>exact ⟨_,rfl,rfl⟩
   | ⟨22,_⟩=>exact ⟨_,rfl,rfl⟩
   | ⟨23,_⟩=>exact ⟨_,rfl,rfl⟩
   | ⟨n+24,h⟩=>exact absurd h (by omega)
  obtain ⟨s',k1,k2⟩:=key ⟨j,hlt⟩
  dsimp only at k1
  rw [k1]
  exact Dr.some ⟨⟨rfl,by dsimp only;omega,by dsimp only;omega⟩,⟨⟨g1,by dsimp only;omega,g3,⟨by dsimp only;omega,by dsimp only;omega⟩,by dsimp only;omega,by dsimp only;omega⟩,rfl,by dsimp only;omega⟩,k2⟩
theorem bk4 {names:List Str} (hb:b.length≤2000) (hn:∀ s∈names,ic s=true) {p:Int} (h0:0≤p) (h1:p≤800000) {d:Nat} (hd:d≤2):DrA (jZ ⟨b,p⟩ names ((d+1:Nat):Int)) b p (p+64) (λ_=>True):=by
 have hp:(4:Int) ^ (d+1)≤64:=by
  have:d=0∨d=1∨d=2:=by omega
  rcases this with rfl | rfl | rfl<;>decide
 refine Dr.mono (ab7 hb hn d p (by omega) h0 (by omega)) λr hr=>⟨⟨hr.1.1,hr.1.2.1,by have:=hr.1.2.2;omega⟩,trivial⟩
theorem ap6 {names:List Str} (hb:b.length≤2000) (hn:∀ s∈names,ic s=true) {p:Int} (h0:0≤p) (h1:p≤800000):DrA (jZ ⟨b,p⟩ names 2) b p (p+16) (λ_=>True):=by
 have:=ab7 hb hn 1 p (by omega) h0 (by simp;omega)
 refine Dr.mono this λr hr=>⟨⟨hr.1.1,hr.1.2.1,by have:=hr.1.2.2;simp at this;omega⟩,trivial⟩
theorem sE {g:ft} {p:Int} (hb:b.length≤2000) (h0:0≤p) (h1:p≤700000) (hg:GIn g p) {d:Nat} (hd:d≤2):DrA (iD g ⟨b,p⟩ ((d+1:Nat):Int)) b p (p+140) (λ_=>True):=by
 obtain ⟨g1,g2,g3,g4,g5⟩:=hg
 unfold iD
 refine Dr.bind (P:=λs:Int × Int × Str × List ey × Int=>p≤s.2.2.2.2∧s.2.2.2.2≤p+64) ?_ λs hs=>?_
 ·exact DrA.bind (bk4 hb g1 h0 (by omega) hd) λe q k1 k2 _=>Dr.some ⟨k1,k2⟩
 obtain ⟨s1,s2⟩:=hs
 refine Dr.bind (P:=λz:Bool × Int=>p≤z.2∧z.2≤p+65∧(z.1=false→0<g.fns.length)) ?_ λz hz=>?_
 ·refine Dr.ite (fun _ => Dr.some ⟨s1, by dsimp only; omega, fun h => by cases h⟩) fun hf => ?_
  have hf2:=of_decide_eq_false hf
  exact pk hb (by omega) (by omega) λv _ _=>Dr.some ⟨by dsimp only;omega,by dsimp only;omega,λ_=>by omega⟩
 obtain ⟨z1,z2,z3⟩:=hz
 refine Dr.ite (λ_=>DrF (lo:=p) (hi:=p+140) (P:=λ_=>True) rfl z1 (by dsimp only;omega) trivial) λhf=>?_
 have hlen:=z3 hf
 refine Dr.bind (P:=λf:Str × List Str × List fB × Int=>f.2.1.length≤3∧p≤f.2.2.2∧f.2.2.2≤p+66) ?_ λf hfz=>?_
 ·refine pk hb (by omega) (by omega) fun v v0 v1 => ?_
  dsimp only
  exact gtx v0 (v1 (by omega)) λx hx=>Dr.some ⟨g3 x hx,by dsimp only;omega,by dsimp only;omega⟩
 obtain ⟨f1,f2,f3⟩:=hfz
 have e0:(((f.2.1.length:Int)) - 0).toNat=f.2.1.length:=by omega
 rw [e0]
 refine Dr.forN (I:=λj (s:List ey × Int)=>(s.1.length:Int)=j∧p≤s.2∧s.2≤p+66+16*j) ⟨rfl,f2,by dsimp only;omega⟩ (λj s j0 j1 hI=>?_) λs hI=>?_
 ·refine DrA.bind (ap6 hb g1 (by omega) (by omega)) fun e q k1 k2 _ => ?_
  dsimp only
  refine ap (by simp;omega) (Dr.some λt ht=>?_)
  simp only [Sum.inl.injEq] at ht
  subst ht
  exact ⟨by simp;omega,by dsimp only;omega,by dsimp only;omega⟩
 ·refine pk hb (by omega) (by omega) fun v _ _ => ?_
  dsimp only
  refine Dr.ite (λ_=>DrF (lo:=p) (hi:=p+140) (P:=λ_=>True) rfl (by dsimp only;omega) (by dsimp only;omega) trivial) λ_=>?_
  refine nm hb (by decide) (by omega) (by omega) λop _=>?_
  dsimp only
  exact DrA.bind (ap6 hb g1 (by omega) (by omega)) λe q k1 k2 _=>DrF (lo:=p) (hi:=p+140) (P:=λ_=>True) rfl (by dsimp only;omega) (by dsimp only;omega) trivial
theorem ae9 {g:ft} {p:Int} (hb:b.length≤2000) (h0:0≤p) (h1:p≤700000) (hg:GIn g p):DrA (kO g ⟨b,p⟩) b p (p+141) (λ_=>True):=by
 unfold kO
 refine Dr.bind (P:=λs:List ey × Int=>p≤s.2∧s.2≤p+141) ?_ λs hs=>DrF (lo:=p) (hi:=p+141) (P:=λ_=>True) rfl hs.1 hs.2 trivial
 refine DrA.bind (sE hb h0 h1 hg (d:=1) (by omega)) λe q k1 k2 _=>?_
 dsimp only
 exact nm hb (by decide) (by omega) (by omega) λv _=>Dr.some ⟨by dsimp only;omega,by dsimp only;omega⟩
theorem ar8 {g:ft} {p:Int} (hb:b.length≤2000) (h0:0≤p) (h1:p≤700000) (hg:GIn g p) (e:ey):Dr (ki g ⟨b,p⟩ e) (yo b g p (p+1) (p+2) 3 (λs=>ic s.name=true∧zz s=1)):=by
 unfold ki
 refine DrG.bind (aq3 hb h0 (by omega) hg) λs g' q k1 k2 kg kf kl ks=>?_
 obtain ⟨a1,a2,a3,a4,a5⟩:=hg
 obtain ⟨b1,b2,b3,b4,b5⟩:=kg
 refine ap (by simp;omega) ?_
 rw [List.nil_append]
 refine ap (by simp;omega) ?_
 refine Dr.some ⟨⟨rfl,k1,k2⟩,⟨⟨λx hx=>?_,?_,a3,b4,b5⟩,rfl,kl⟩,ks,by rw [l8,jF]⟩
 ·rcases List.mem_append.1 hx with h | h
  ·exact a1 x h
  ·simp at h;subst h;exact ks
 ·simp
  omega
end
end Prg
end Go.Wk
namespace Go.Wk
open Go
namespace Prg
set_option maxRecDepth 10000
def af7 (d:Nat) (K:Int) (C:Nat):Prop:=∀ (b:List UInt8) (g:ft) (p:Int),b.length≤2000→0≤p→p≤690000 - 120000*(d:Int)→GIn g p→Dr (jB g ⟨b,p⟩ (d:Int)) (yo b g p (p+1) (p+K) 3 (λl=>kV l≤C∧l.length≤1000))
def ao3 (d:Nat) (K:Int) (C:Nat):Prop:=∀ (b:List UInt8) (g:ft) (p:Int),b.length≤2000→0≤p→p≤795000 - 120000*(d:Int)→GIn g p→Dr (ly g ⟨b,p⟩ (d:Int)) (yo b g p (p+1) (p+K) 0 (λl=>kV l≤C∧l.length≤2))
theorem GIn.mono {g:ft} {p q:Int} (h:GIn g p) (hq:p≤q):GIn g q:=by
 obtain ⟨h1,h2,h3,⟨h4,h5⟩,h6,h7⟩:=h
 exact ⟨h1,by omega,h3,⟨h4,by omega⟩,by omega,h7⟩
theorem wj {d:Nat} (hd:1≤d) {K:Int} {C:Nat} (hK:1≤K∧K≤25000) (hC:C≤100) (hs:ao3 d K C):af7 d (1+4*K) (4*C):=by
 intro b g p hb h0 h1 hg
 rw [jB]
 refine nm hb (by decide) h0 (by omega) λn hn=>?_
 dsimp only
 have hn2:1≤n∧n≤4:=by
  simp only [List.mem_cons,List.not_mem_nil,or_false] at hn
  omega
 refine Dr.bind (P:=λx:Int × List Str × Int × Int × List fB=>(p+1≤x.1∧x.1≤p+1+K*n)∧GIn ⟨g.fns,x.2.1,x.2.2.1,x.2.2.2.1⟩ x.1∧g.left - 3*(x.1 - p)+3≤x.2.2.2.1∧(kV x.2.2.2.2:Int)≤C*n∧(x.2.2.2.2.length:Int)≤2*n) ?_ λx hx=>?_
 ·refine Dr.bind (P:=λx:Int × List Str × Int × Int × List fB=>(p+1≤x.1∧x.1≤p+1+K*n)∧GIn ⟨g.fns,x.2.1,x.2.2.1,x.2.2.2.1⟩ x.1∧g.left - 3*(x.1 - p)+3≤x.2.2.2.1∧(kV x.2.2.2.2:Int)≤C*n∧(x.2.2.2.2.length:Int)≤2*n) ?_ λx hx=>Dr.some hx
  refine Dr.loop (I:=λx:Int × List Str × Int × Int × List fB × Int=>((0≤x.2.2.2.2.2∧x.2.2.2.2.2≤n)∧p+1≤x.1∧x.1≤p+1+K*(n - x.2.2.2.2.2))∧GIn ⟨g.fns,x.2.1,x.2.2.1,x.2.2.2.1⟩ x.1∧g.left - 3*(x.1 - p)+3≤x.2.2.2.1∧(kV x.2.2.2.2.1:Int)≤C*(n - x.2.2.2.2.2)∧(x.2.2.2.2.1.length:Int)≤2*(n - x.2.2.2.2.2)) (λx=>x.2.2.2.2.2.toNat) ?_ ?_
  ·refine ⟨⟨⟨by dsimp only; omega, by dsimp only; omega⟩, by dsimp only; omega, ?_⟩, ?_, ?_, ?_, ?_⟩
   ·dsimp only;rw [Int.sub_self,Int.mul_zero];omega
   ·exact hg.mono (by dsimp only;omega)
   ·dsimp only;omega
   ·dsimp only;rw [jF,Int.sub_self,Int.mul_zero];omega
   ·dsimp only;simp
  rintro ⟨q,vars,nx,lf,out,i⟩ ⟨⟨⟨i0,i1⟩,q0,q1⟩,gi,li,ci,li2⟩
  dsimp only at i0 i1 q0 q1 gi li ci li2 ⊢
  have hmul:K*(n - i)≤100000:=by
   have h1:K*(n - i)≤K*4:=Int.mul_le_mul_of_nonneg_left (by omega) (by omega)
   omega
  refine Dr.bind (P:=λs:Bool=>s=true→0<i) ?_ λs hsb=>?_
  ·refine Dr.ite (λh=>Dr.some λ_=>of_decide_eq_true h) λ_=>Dr.some λh=>by cases h
  refine Dr.ite (λhc=>?_) λ_=>?_
  ·have hi:=hsb hc
   refine DrG.bind (hs b _ q hb (by omega) (by omega) gi) λl g' q' k1 k2 kg kf kl kc=>?_
   have hC4:(C:Int)*(n - i)≤400:=by
    have h1:(C:Int)*(n - i)≤(C:Int)*4:=Int.mul_le_mul_of_nonneg_left (by omega) (by omega)
    omega
   refine ap (by have:=kc.2;dsimp only;omega) (Dr.some (And.intro (λt ht=>?_) λt ht=>by cases ht))
   simp only [Sum.inl.injEq] at ht
   subst ht
   have ew:w64 (i - 1)=i - 1:=hO (by omega) (by omega)
   have eK:K*(n - (i - 1))=K*(n - i)+K:=by rw [show n - (i - 1)=(n - i)+1 by omega,Int.mul_add,Int.mul_one]
   have eC:(C:Int)*(n - (i - 1))=C*(n - i)+C:=by rw [show n - (i - 1)=(n - i)+1 by omega,Int.mul_add,Int.mul_one]
   dsimp only at kl kc ⊢
   rw [ew,eK,eC]
   refine ⟨⟨⟨⟨by omega,by omega⟩,by omega,by omega⟩,?_,by omega,?_,?_⟩,by omega⟩
   ·have : g' = ⟨g.fns, g'.vars, g'.next_, g'.left⟩ := by cases g'; simp at kf; subst kf; rfl
    rw [this] at kg
    exact kg
   ·rw [oG];have:=kc.1;omega
   ·have:=kc.2;simp;omega
  ·refine Dr.some (And.intro (fun t ht => by cases ht) fun t ht => ?_)
   simp only [Sum.inr.injEq] at ht
   subst ht
   dsimp only
   have hK2:K*(n - i)≤K*n:=Int.mul_le_mul_of_nonneg_left (by omega) (by omega)
   have hC2:(C:Int)*(n - i)≤C*n:=Int.mul_le_mul_of_nonneg_left (by omega) (by omega)
   exact ⟨⟨q0,by omega⟩,gi,li,by omega,by omega⟩
 obtain ⟨⟨x1,x2⟩,x3,x4,x5,x6⟩:=hx
 have hK4:K*n≤4*K:=by
  have h1:K*n≤K*4:=Int.mul_le_mul_of_nonneg_left (by omega) (by omega)
  omega
 have hC4:(C:Int)*n≤4*C:=by
  have h1:(C:Int)*n≤(C:Int)*4:=Int.mul_le_mul_of_nonneg_left (by omega) (by omega)
  omega
 obtain ⟨a1,a2,a3,a4,a5⟩:=hg
 obtain ⟨b1,b2,b3,b4,b5⟩:=x3
 exact Dr.some ⟨⟨rfl,x1,by dsimp only;omega⟩,⟨⟨a1,by dsimp only;omega,a3,b4,b5⟩,rfl,by dsimp only;omega⟩,by dsimp only;omega,by dsimp only;omega⟩
theorem av7 {d:Nat} {K:Int} {C:Nat} (hK:1≤K∧K≤200000) (hC:C≤400) (hB:af7 d K C) (hd:d≤10) {b:List UInt8} {g:ft} {p:Int} (hb:b.length≤2000) (h0:0≤p) (h1:p≤680000 - 120000*(d:Int)) (hg:GIn g p) :
  Dr (lz g ⟨b,p⟩ ((d+1:Nat):Int)) (yo b g p (p+1) (p+3+K) 0 (λl=>kV l≤C+3∧l.length≤2)):=by
 rw [lz]
 refine nm hb (by decide) h0 (by omega) λn hn=>?_
 dsimp only
 refine DrG.bind (ar8 hb (by omega) (by omega) (hg.mono (by omega)) _) λs g' q k1 k2 kg kf kl ks=>?_
 dsimp only
 have ew:w64 (((d+1:Nat):Int) - 1)=(d:Int):=by rw [hO (by omega) (by omega)];omega
 rw [ew]
 have hgi:GIn ⟨g.fns,g'.vars,g'.next_,g'.left⟩ q:=by
  have:g'=⟨g.fns,g'.vars,g'.next_,g'.left⟩:=by cases g';simp at kf;subst kf;rfl
  rw [this] at kg
  exact kg
 refine DrG.bind (hB b _ q hb (by omega) (by omega) hgi) λl g2 q2 m1 m2 mg mf ml mc=>?_
 dsimp only at ml ⊢
 refine Dr.bind (P:=λz:List fB=>kV z≤C+3∧z.length≤2) ?_ λz hz=>?_
 ·refine ap (by have := mc.2; simp; omega) (Dr.some ⟨?_, by simp⟩)
  rw [kS,kS,jF,ks.2,l8]
  dsimp only
  rw [oG,kS,jF,l8]
  dsimp only
  rw [jF]
  have:=mc.1
  omega
 obtain ⟨b1,b2,b3,b4,b5,b6⟩:=mg
 have ew2:w64 (g2.left - 2)=g2.left - 2:=hO (by omega) (by omega)
 rw [ew2]
 have hf2:g2.fns=g.fns:=mf
 refine Dr.some ⟨⟨rfl,by dsimp only;omega,by dsimp only;omega⟩,⟨⟨b1,b2,by rw [← hf2];exact b3,b4,?_,by dsimp only;omega⟩,rfl,by dsimp only;omega⟩,hz⟩
 obtain ⟨_,_,_,_,a5,a6⟩:=hg
 dsimp only
 omega
theorem tI {d:Nat} {K:Int} {C:Nat} (hK:1≤K∧K≤25000) (hC:C≤100) (hd:d≤3) (hd1:1≤d) (hB:2≤d→af7 (d - 1) ((K - 145) / 2) ((C - 3) / 2)∧3≤C∧600≤K) (hC1:1≤C) (hK1:300≤K):ao3 d K C:=by
 intro b g p hb h0 h1 hg
 have hgo:=hg
 obtain ⟨a1,a2,a3,⟨a4,a5⟩,a6,a7⟩:=hgo
 have ew:w64 (g.left - 1)=g.left - 1:=hO (by omega) (by omega)
 rw [ly]
 refine pk hb h0 (by omega) λv _ _=>?_
 dsimp only
 rw [ew]
 have hg1:∀ q,p+1≤q→GIn ⟨g.fns,g.vars,g.next_,g.left - 1⟩ q:=λq hq=>⟨a1,by dsimp only;omega,a3,⟨by dsimp only;omega,by dsimp only;omega⟩,by dsimp only;omega,by dsimp only;omega⟩
 have out1:∀ (q:Int) (l:List fB),p+1≤q→q≤p+K→kV l≤C∧l.length≤2→Dr (some (l,(⟨g.fns,g.vars,g.next_,g.left - 1⟩:ft),(⟨b,q⟩:fG))) (yo b g p (p+1) (p+K) 0 (λl=>kV l≤C∧l.length≤2)):=λq l hq hq2 hl=>Dr.some ⟨⟨rfl,hq,hq2⟩,⟨hg1 q hq,rfl,by dsimp only;omega⟩,hl⟩
 have one:∀ (op:Int) (n:Str) (a:List ey),kV ([⟨op,n,a,[],[]⟩]:List fB)≤C∧([⟨op,n,a,[],[]⟩]:List fB).length≤2:=λop n a=>⟨by rw [kS,jF,l8];dsimp only;rw [jF];omega,by simp⟩
 have e3:((2+1:Nat):Int)=3:=rfl
 have e2:((1+1:Nat):Int)=2:=rfl
 have ex3:∀ q,p+1≤q→q≤690000→DrA (iD ⟨g.fns,g.vars,g.next_,g.left - 1⟩ ⟨b,q⟩ 3) b q (q+140) (λ_=>True):=λq hq hq2=>by
  have:=sE hb (by omega) (by omega) (hg1 q hq) (d:=2) (by omega)
  rw [e3] at this;exact this
 have ex2:∀ q,p+1≤q→q≤690000→DrA (iD ⟨g.fns,g.vars,g.next_,g.left - 1⟩ ⟨b,q⟩ 2) b q (q+140) (λ_=>True):=λq hq hq2=>by
  have:=sE hb (by omega) (by omega) (hg1 q hq) (d:=1) (by omega)
  rw [e2] at this;exact this
 refine Dr.bind (P:=λs:Bool=>s=true→0<g.vars.length) ?_ λs hs=>?_
 ·refine Dr.ite (fun _ => Dr.some fun h => ?_) fun _ => Dr.some fun h => by cases h
  have:=of_decide_eq_true h
  omega
 refine Dr.ite (λhc=>?_) λ_=>?_
 ·refine ofx hb (hs hc) (by omega) (by omega) fun n _ => ?_
  dsimp only
  exact DrA.bind (ex3 _ (by omega) (by omega)) λe q k1 k2 _=>out1 q _ (by omega) (by omega) (one _ _ _)
 refine Dr.ite (λ_=>?_) λ_=>?_
 ·refine DrA.bind (ex3 _ (by omega) (by omega)) fun e q k1 k2 _ => ?_
  dsimp only
  refine DrG.bind (ar8 hb (by omega) (by omega) (hg1 q (by omega)) e) λs g' q2 m1 m2 mg mf ml ms=>?_
  have hgi:GIn ⟨g.fns,g'.vars,g'.next_,g'.left⟩ q2:=by
   have:g'=⟨g.fns,g'.vars,g'.next_,g'.left⟩:=by cases g';simp at mf;subst mf;rfl
   rw [this] at mg
   exact mg
  dsimp only at ml
  exact Dr.some ⟨⟨rfl,by dsimp only;omega,by dsimp only;omega⟩,⟨hgi,rfl,by dsimp only;omega⟩,by rw [kS,jF,ms.2];omega,by simp⟩
 refine Dr.bind (P:=λs:Bool=>s=false→2≤d) ?_ λs hs2=>?_
 ·refine Dr.ite (fun _ => Dr.some fun h => by cases h) fun _ => Dr.some fun h => ?_
  have:=of_decide_eq_false h
  omega
 refine Dr.ite (λ_=>?_) λhf=>?_
 ·exact DrA.bind (ex3 _ (by omega) (by omega)) λe q k1 k2 _=>out1 q _ (by omega) (by omega) (one _ _ _)
 have hd2:=hs2 hf
 obtain ⟨hBl,hC3,hK6⟩:=hB hd2
 obtain ⟨d',rfl⟩:∃ d',d=d'+1:=⟨d - 1,by omega⟩
 rw [show d'+1 - 1=d' by omega] at hBl
 generalize hKb:(K - 145) / 2=Kb at hBl
 generalize hCb:(C - 3) / 2=Cb at hBl
 have hKb2:2*Kb≤K - 145∧1≤Kb:=by omega
 have hCb2:2*Cb≤C - 3:=by omega
 have ewd:w64 (((d'+1:Nat):Int) - 1)=(d':Int):=by rw [hO (by omega) (by omega)];omega
 refine Dr.ite (λ_=>?_) λ_=>?_
 ·refine DrA.bind (ae9 hb (by omega) (by omega) (hg1 _ (by omega))) fun e q k1 k2 _ => ?_
  dsimp only
  exact DrA.bind (ex2 _ (by omega) (by omega)) λe2 q2 m1 m2 _=>out1 q2 _ (by omega) (by omega) (one _ _ _)
 refine Dr.ite (λ_=>?_) λ_=>?_
 ·exact DrA.bind (ae9 hb (by omega) (by omega) (hg1 _ (by omega))) λe q k1 k2 _=>out1 q _ (by omega) (by omega) (one _ _ _)
 refine Dr.ite (λ_=>?_) λ_=>?_
 ·refine DrA.bind (ex3 _ (by omega) (by omega)) fun e q k1 k2 _ => ?_
  dsimp only
  rw [ewd]
  refine DrG.bind (hBl b _ q hb (by omega) (by omega) (hg1 q (by omega))) λl g2 q2 m1 m2 mg mf ml mc=>?_
  dsimp only at mf ml ⊢
  have hgi:GIn ⟨g.fns,g2.vars,g2.next_,g2.left⟩ q2:=by
   have:g2=⟨g.fns,g2.vars,g2.next_,g2.left⟩:=by cases g2;simp at mf;subst mf;rfl
   rw [this] at mg
   exact mg
  refine pk hb (by omega) (by omega) λv _ _=>?_
  dsimp only
  refine Dr.bind (P:=λs:List fB × Int × List Str × Int × Int=>(q2+1≤s.2.1∧s.2.1≤p+K)∧GIn ⟨g.fns,s.2.2.1,s.2.2.2.1,s.2.2.2.2⟩ s.2.1∧g.left - 3*(s.2.1 - p)≤s.2.2.2.2∧kV s.1≤Cb) ?_ λs hs=>?_
  ·refine Dr.ite (λ_=>?_) λ_=>?_
   ·refine DrG.bind (hBl b _ (q2 + 1) hb (by omega) (by omega) (hgi.mono (by omega))) fun l3 g3 q3 n1 n2 ng nf nl nc => ?_
    dsimp only at nf nl ⊢
    have hgi3:GIn ⟨g.fns,g3.vars,g3.next_,g3.left⟩ q3:=by
     have:g3=⟨g.fns,g3.vars,g3.next_,g3.left⟩:=by cases g3;simp at nf;subst nf;rfl
     rw [this] at ng
     exact ng
    exact Dr.some ⟨⟨by dsimp only;omega,by dsimp only;omega⟩,hgi3,by dsimp only;omega,nc.1⟩
   ·exact Dr.some ⟨⟨by dsimp only;omega,by dsimp only;omega⟩,hgi.mono (by dsimp only;omega),by dsimp only;omega,by dsimp only;rw [jF];omega⟩
  obtain ⟨⟨s1,s2⟩,s3,s4,s5⟩:=hs
  refine Dr.some ⟨⟨rfl,by dsimp only;omega,by dsimp only;omega⟩,⟨s3,rfl,by dsimp only;omega⟩,?_,by simp⟩
  rw [kS,jF,l8]
  dsimp only
  have:=mc.1
  omega
 refine Dr.bind (P:=λs:Int × Bool=>p+1≤s.1∧s.1≤p+2) ?_ λs hs=>?_
 ·refine Dr.ite (λ_=>pk hb (by omega) (by omega) λv _ _=>Dr.some ⟨by dsimp only;omega,by dsimp only;omega⟩) λ_=>Dr.some ⟨by dsimp only;omega,by dsimp only;omega⟩
 refine Dr.ite (λ_=>?_) λ_=>?_
 ·exact DrA.bind (ex2 _ (by omega) (by omega)) λe q k1 k2 _=>out1 q _ (by omega) (by omega) (one _ _ _)
 ·refine DrG.bind (av7 (by omega) (by omega) hBl (by omega) hb (by omega) (by omega) (hg1 _ hs.1)) fun l g2 q2 m1 m2 mg mf ml mc => ?_
  dsimp only at mf ml ⊢
  have hgi:GIn ⟨g.fns,g2.vars,g2.next_,g2.left⟩ q2:=by
   have:g2=⟨g.fns,g2.vars,g2.next_,g2.left⟩:=by cases g2;simp at mf;subst mf;rfl
   rw [this] at mg
   exact mg
  exact Dr.some ⟨⟨rfl,by dsimp only;omega,by dsimp only;omega⟩,⟨hgi,rfl,by dsimp only;omega⟩,by have:=mc.1;dsimp only;omega,mc.2⟩
theorem bo4:ao3 1 300 1:=tI (by decide) (by decide) (by decide) (by decide) (λh=>by omega) (by decide) (by decide)
theorem bn8:af7 1 1201 4:=wj (by decide) (by decide) (by decide) bo4
theorem bm4:ao3 2 3000 11:=tI (by decide) (by decide) (by decide) (by decide) (λ_=>⟨λb g p h1 h2 h3 h4=>(bn8 b g p h1 h2 h3 h4).mono λr hr=>⟨⟨hr.1.1,hr.1.2.1,by have:=hr.1.2.2;omega⟩,hr.2.1,by have:=hr.2.2.1;omega,hr.2.2.2⟩,by decide,by decide⟩) (by decide) (by decide)
theorem bn1:af7 2 12001 44:=wj (by decide) (by decide) (by decide) bm4
theorem bo0:ao3 3 25000 91:=tI (by decide) (by decide) (by decide) (by decide) (λ_=>⟨λb g p h1 h2 h3 h4=>(bn1 b g p h1 h2 h3 h4).mono λr hr=>⟨⟨hr.1.1,hr.1.2.1,by have:=hr.1.2.2;omega⟩,hr.2.1,by have:=hr.2.2.1;omega,hr.2.2.2⟩,by decide,by decide⟩) (by decide) (by decide)
theorem bn7:af7 3 100001 364:=wj (by decide) (by decide) (by decide) bo0
end Prg
end Go.Wk
namespace Go.Wk
open Go
namespace Prg
set_option maxRecDepth 10000
theorem GIn.of {g g':ft} {p:Int} (h:GIn g' p) (e:g'.fns=g.fns):GIn ⟨g.fns,g'.vars,g'.next_,g'.left⟩ p:=by
 have:g'=⟨g.fns,g'.vars,g'.next_,g'.left⟩:=by cases g';simp at e;subst e;rfl
 rw [this] at h
 exact h
theorem ba3 {b:List UInt8} (hb:b.length≤2000) {g:ft} {p k:Int} (h0:2≤p) (h1:p≤320000) (hg:GIn g p) (k0:0≤k) (k1:k≤3) (name:Str) :
  Dr (kz g ⟨b,p⟩ name k) (yo b g p p (p+100200) 0 (λf=>f.params.length≤3∧kV f.body≤365)):=by
 unfold kz
 have hN:∀ s∈([(mkS [97]),(mkS [98]),(mkS [99])]:List Str),ic s=true:=by
  intro s hs
  simp only [List.mem_cons,List.not_mem_nil,or_false] at hs
  rcases hs with rfl | rfl | rfl<;>rfl
 refine Dr.bind (P:=λx:List Str=>(x.length:Int)=k∧∀ s∈x,ic s=true) ?_ λx hx=>?_
 ·refine ⟨_, p9.2 ⟨⟨by omega, k0, ?_⟩, rfl⟩, ?_, ?_⟩
  ·simp;omega
  ·simp;omega
  ·intro s hs
   exact hN s (List.mem_of_mem_take (List.mem_of_mem_drop hs))
 obtain ⟨x1,x2⟩:=hx
 refine ap (by simp;omega) ?_
 have ew:w64 (k - 1)=k - 1:=hO (by omega) (by omega)
 rw [ew]
 have hgo:=hg
 obtain ⟨a1,a2,a3,⟨a4,a5⟩,a6,a7⟩:=hgo
 refine DrG.bind (bn7 b _ p hb (by omega) (by omega) ⟨x2,by dsimp only;omega,a3,⟨by dsimp only;omega,by dsimp only;omega⟩,by dsimp only;omega,by dsimp only;omega⟩) λl g2 q m1 m2 mg mf ml mc=>?_
 dsimp only at mf ml ⊢
 have hgi:=GIn.of mg (g:=g) mf
 refine Dr.bind (P:=λs:Int × Bool=>q≤s.1∧s.1≤q+1) ?_ λs hs=>?_
 ·refine Dr.ite (λ_=>pk hb (by omega) (by omega) λv _ _=>Dr.some ⟨by dsimp only;omega,by dsimp only;omega⟩) λ_=>Dr.some ⟨by dsimp only;omega,by dsimp only;omega⟩
 have hgo2:=hgi
 obtain ⟨b1,b2,b3,⟨b4,b5⟩,b6,b7⟩:=hgo2
 dsimp only at b1 b2 b3 b4 b5 b6 b7
 have ew2:w64 (g2.left - 1)=g2.left - 1:=hO (by omega) (by omega)
 refine Dr.bind (P:=λs:List fB × Int × Int=>kV s.1≤365∧q≤s.2.1∧s.2.1≤q+142∧g2.left - 1≤s.2.2∧s.2.2≤g2.left) ?_ λz hz=>?_
 ·refine Dr.ite (fun _ => ?_) fun _ => Dr.some ⟨by have := mc.1; dsimp only; omega, hs.1, by dsimp only; omega, by dsimp only; omega, by dsimp only; omega⟩
  rw [ew2]
  refine DrA.bind (by
   have:=sE (g:=⟨g.fns,g2.vars,g2.next_,g2.left - 1⟩) hb (p:=s.1) (by omega) (by omega) ⟨b1,by dsimp only;omega,b3,⟨by dsimp only;omega,by dsimp only;omega⟩,by dsimp only;omega,by dsimp only;omega⟩ (d:=1) (by omega)
   exact this) λe q2 n1 n2 _=>?_
  dsimp only
  have hml:=mc.2
  refine ap (by simp;omega) (Dr.some ⟨?_,by dsimp only;omega,by dsimp only;omega,by dsimp only;omega,by dsimp only;omega⟩)
  dsimp only
  rw [oG,kS,jF,l8]
  dsimp only
  rw [jF]
  have:=mc.1
  omega
 obtain ⟨z1,z2,z3,z4,z5⟩:=hz
 refine Dr.some ⟨⟨rfl,by dsimp only;omega,by dsimp only;omega⟩,⟨⟨b1,by dsimp only;omega,b3,⟨by dsimp only;omega,by dsimp only;omega⟩,by dsimp only;omega,by dsimp only;omega⟩,rfl,?_⟩,?_,z1⟩
 ·dsimp only;omega
 ·dsimp only
  rw [List.nil_append]
  omega
theorem ab9:∀ {l:List Fn_} {n:Nat},(∀ f∈l,kV f.body≤n)→me l≤n*l.length
 | [],n,_=>by rw [me];omega
 | f::l,n,h=>by
  have:=ab9 (l:=l) (n:=n) λg hg=>h g (List.mem_cons_of_mem _ hg)
  have h2:=h f List.mem_cons_self
  rw [me,List.length_cons,Nat.mul_succ]
  omega
theorem bj4:kY (⟨([(⟨(mkS [109]),[],([(⟨3,(mkS []),([(⟨1,1,(mkS []),[]⟩:ey)]:List ey),[],[]⟩:fB)]:List fB)⟩:Fn_)]:List Fn_)⟩:fZ)=true∧me ([(⟨(mkS [109]),[],([(⟨3,(mkS []),([(⟨1,1,(mkS []),[]⟩:ey)]:List ey),[],[]⟩:fB)]:List fB)⟩:Fn_)]:List Fn_)≤40:=by
 constructor
 ·rfl
 ·decide +kernel
theorem aw4 {b:List UInt8} (hb:b.length≤2000):DrA (oH ⟨b,0⟩) b 0 310000 (λp=>kY p=true∧me p.fns≤40):=by
 unfold oH
 refine nm hb (by decide) (by omega) (by omega) λlf hlf=>?_
 refine nm hb (by decide) (by dsimp only;omega) (by dsimp only;omega) λn hn=>?_
 have hlf2:8≤lf∧lf≤26:=by
  simp only [List.mem_cons,List.not_mem_nil,or_false] at hlf
  omega
 have hn2:0≤n∧n≤2:=by
  simp only [List.mem_cons,List.not_mem_nil,or_false] at hn
  omega
 dsimp only
 have hI0:∀ {q:Int},0≤q→GIn ⟨([]:List Fn_),[],0,lf⟩ q:=λ{q} hq=>⟨λs hs=>(by simp at hs),by dsimp only;simp;omega,λf hf=>(by simp at hf),⟨by dsimp only;omega,by dsimp only;omega⟩,by dsimp only;omega,by dsimp only;omega⟩
 refine Dr.bind (P:=λx:Int × List Fn_ × List Str × Int × Int=>(2≤x.1∧x.1≤2+100201*n)∧GIn ⟨x.2.1,x.2.2.1,x.2.2.2.1,x.2.2.2.2⟩ x.1∧((x.2.1.length:Int)≤n∧∀ f∈x.2.1,kV f.body≤365)) ?_ λx hx=>?_
 ·refine Dr.bind (P:=λx:Int × List Fn_ × List Str × Int × Int=>(2≤x.1∧x.1≤2+100201*n)∧GIn ⟨x.2.1,x.2.2.1,x.2.2.2.1,x.2.2.2.2⟩ x.1∧((x.2.1.length:Int)≤n∧∀ f∈x.2.1,kV f.body≤365)) ?_ λx hx=>Dr.some hx
  refine Dr.loop (I:=λx:Int × List Fn_ × List Str × Int × Int × Int=>(((0≤x.2.2.2.2.2∧x.2.2.2.2.2≤n)∧(x.2.1.length:Int)+x.2.2.2.2.2=n)∧2≤x.1∧x.1≤2+100201*(n - x.2.2.2.2.2))∧GIn ⟨x.2.1,x.2.2.1,x.2.2.2.1,x.2.2.2.2.1⟩ x.1∧∀ f∈x.2.1,kV f.body≤365) (λx=>x.2.2.2.2.2.toNat) ?_ ?_
  ·exact ⟨⟨⟨⟨by dsimp only;omega,by dsimp only;omega⟩,by dsimp only;simp⟩,by dsimp only;omega,by dsimp only;omega⟩,hI0 (by dsimp only;omega),λf hf=>by simp at hf⟩
  rintro ⟨q,fns,vars,nx,lf2,i⟩ ⟨⟨⟨⟨i0,i1⟩,i2⟩,q0,q1⟩,gi,fi⟩
  dsimp only at i0 i1 i2 q0 q1 gi fi ⊢
  refine Dr.ite (λhc=>?_) λ_=>?_
  ·have hc:=of_decide_eq_true hc
   have ew:w64 (i - 1)=i - 1:=hO (by omega) (by omega)
   refine Dr.bind (P:=λs:Int × List Str × Int × Int × Str × List Str × List fB=>(q+1≤s.1∧s.1≤q+100201)∧GIn ⟨fns,s.2.1,s.2.2.1,s.2.2.2.1⟩ s.1∧(s.2.2.2.2.2.1.length≤3∧kV s.2.2.2.2.2.2≤365)) ?_ λs hs=>?_
   ·refine gtx (by omega) (by simp; omega) fun nmf _ => ?_
    refine pk hb (by omega) (by omega) λv v0 v1=>?_
    dsimp only
    refine DrG.bind (ba3 hb (by omega) (by omega) (gi.mono (by omega)) v0 (by have:=v1 (by omega);omega) nmf) λf g' q2 k1 k2 kg kf kl kc=>?_
    try rw [obS]
    exact Dr.some ⟨⟨by dsimp only;omega,by dsimp only;omega⟩,kg.of (g:=⟨fns,vars,nx,lf2⟩) kf,kc⟩
   obtain ⟨⟨s1,s2⟩,s3,s4,s5⟩:=hs
   refine Dr.bind (P:=λz:List Fn_=>z=fns++[⟨s.2.2.2.2.1,s.2.2.2.2.2.1,s.2.2.2.2.2.2⟩]) ?_ λz hz=>?_
   ·exact ap (by simp;omega) (Dr.some rfl)
   subst hz
   rw [ew]
   refine Dr.some (And.intro (λt ht=>?_) λt ht=>by cases ht)
   simp only [Sum.inl.injEq] at ht
   subst ht
   dsimp only
   obtain ⟨c1,c2,c3,c4,c5⟩:=s3
   refine ⟨⟨⟨⟨⟨by omega,by omega⟩,by simp;omega⟩,by omega,by omega⟩,⟨c1,c2,λf hf=>?_,c4,c5⟩,λf hf=>?_⟩,by omega⟩
   ·dsimp only at hf c3
    rcases List.mem_append.1 hf with h | h
    ·exact c3 f h
    ·simp at h;subst h;exact s4
   ·rcases List.mem_append.1 hf with h | h
    ·exact fi f h
    ·simp at h;subst h;exact s5
  ·refine Dr.some (And.intro (fun t ht => by cases ht) fun t ht => ?_)
   simp only [Sum.inr.injEq] at ht
   subst ht
   dsimp only
   exact ⟨⟨q0,by omega⟩,gi,by omega,fi⟩
 obtain ⟨⟨x1,x2⟩,x3,x4,x5⟩:=hx
 refine nm hb (by decide) (by omega) (by omega) λk hk=>?_
 have hk2:0≤k∧k≤2:=by
  simp only [List.mem_cons,List.not_mem_nil,or_false] at hk
  omega
 dsimp only
 refine DrG.bind (ba3 hb (by omega) (by omega) (x3.mono (by omega)) hk2.1 (by omega) _) λf g' q2 k1 k2 kg kf kl kc=>?_
 dsimp only
 refine Dr.bind (P:=λz:List Fn_=>z=x.2.1++[f]) ?_ λz hz=>?_
 ·refine ap (by simp; omega) ?_
  rw [List.nil_append]
  refine ap (by simp;omega) ?_
  try rw [obS]
  exact Dr.some rfl
 subst hz
 have hcnt:me (x.2.1++[f])≤365*(x.2.1++[f]).length:=ab9 λg hg=>by
  rcases List.mem_append.1 hg with h | h
  ·exact x5 g h
  ·simp at h;subst h;exact kc.2
 have hlen:(x.2.1++[f]).length≤3:=by simp;omega
 rw [yr,obS]
 refine Dr.ite (λ_=>DrF (lo:=0) (hi:=310000) (P:=λp:fZ=>kY p=true∧me p.fns≤40) rfl (by dsimp only;omega) (by dsimp only;omega) ⟨bj4.1,bj4.2⟩) λhp=>DrF (lo:=0) (hi:=310000) (P:=λp:fZ=>kY p=true∧me p.fns≤40) rfl (by dsimp only;omega) (by dsimp only;omega) ?_
 have hp2:kY ⟨x.2.1++[f]⟩=true:=by
  cases h:kY ⟨x.2.1++[f]⟩ with
  | true=>rfl
  | false=>rw [h] at hp;exact absurd hp (by decide)
 refine ⟨hp2,?_⟩
 have h3:w64 (me (x.2.1++[f]):Int)≤40:=by
  unfold kY at hp2
  simp only [Bool.and_eq_true,decide_eq_true_eq] at hp2
  exact hp2.2.2
 rw [hO (by omega) (by omega)] at h3
 dsimp only
 omega
end Prg
end Go.Wk
namespace Go.Wk
open Go
namespace Prg
set_option maxRecDepth 10000
def kW (t:Str):eu:=⟨4,t⟩
def sC:eu:=⟨3,mkS [59]⟩
def oB:eu:=⟨3,mkS [123]⟩
def cB:eu:=⟨3,mkS [125]⟩
def eQ:eu:=⟨3,mkS [61]⟩
def wHd (op:Int) (n:Str):List eu:=if op=1 then [kW wy,⟨1,n⟩,eQ] else if op=2 then [⟨1,n⟩,eQ] else if op=3 then [kW xJ] else if op=4 then [kW xF] else if op=5 then [kW tIf] else if op=6 then [kW rQ] else if op=7 then [kW rP] else [kW tDo]
def wBr (ws:List eu):List eu:=oB::(ws++[cB])
mutual
def wSt:fB→List eu
 | ⟨op,n,a,b,e⟩=>wHd op n++(aW (a.map (wE 6))++(if op=5∨op=6 then wBr (wSL b)++(if e.isEmpty then [] else kW og::wBr (wSL e)) else [sC]))
def wSL:List fB→List eu
 | []=>[]
 | s::l=>wSt s++wSL l
end
theorem xr (s:fB):wSt s=wHd s.op s.name++(aW (s.args.map (wE 6))++(if s.op=5∨s.op=6 then wBr (wSL s.body)++(if s.else_.isEmpty then [] else kW og::wBr (wSL s.else_)) else [sC])):=by cases s;rw [wSt]
theorem pE:wSL []=[]:=by rw [wSL]
theorem ql (s:fB) (l:List fB):wSL (s::l)=wSt s++wSL l:=by rw [wSL]
theorem v8:∀ (l r:List fB),wSL (l++r)=wSL l++wSL r
 | [],r=>by rw [pE];rfl
 | s::l,r=>by rw [List.cons_append,ql,ql,v8 l r,List.append_assoc]
theorem ad1 (s:fB):wSL [s]=wSt s:=by rw [ql,pE,List.append_nil]
def wPa (l:List Str):List eu:=aW (l.map λs=>[(⟨1,s⟩:eu)])
def wFn (f:Fn_):List eu:=kW tFn::⟨1,f.name⟩::pL::(wPa f.params++pR::wBr (wSL f.body))
def wFs:List Fn_→List eu
 | []=>[]
 | f::l=>wFn f++wFs l
theorem vp:∀ (l r:List Fn_),wFs (l++r)=wFs l++wFs r
 | [],r=>rfl
 | s::l,r=>by rw [List.cons_append,wFs,wFs,vp l r,List.append_assoc]
theorem bf4 (op:Int) (n:Str):wHd op n≠[]:=by
 unfold wHd
 repeat' split
 all_goals simp
theorem ac7 (op:Int) (n:Str):(wHd op n).length≤3:=by
 unfold wHd
 repeat' split
 all_goals simp
theorem be5 (s:fB):wSt s≠[]:=by
 rw [xr]
 exact λh=>bf4 _ _ (List.append_eq_nil_iff.1 h).1
theorem zf {s:fB} (h:hdB s=true):(1≤s.op∧s.op≤8)∧((s.op≠4∧∃ a,s.args=[a]∧j6 a=true)∨(s.op=4∧∃ a b,s.args=[a,b]∧j6 a=true∧j6 b=true))∧((s.op=1∨s.op=2)→ic s.name=true)∧(¬ (s.op=1∨s.op=2)→s.name=mkS [])∧(s.op=8→∃ a,s.args=[a]∧a.op=13)∧(s.else_=[]∨s.op=5)∧(s.body=[]∨s.op=5∨s.op=6):=by
 unfold hdB at h
 simp only [Bool.and_eq_true,decide_eq_true_iff] at h
 obtain ⟨h1,h2,h3,h4,h5,h6,h7⟩:=h
 have hA:(s.op≠4∧∃ a,s.args=[a]∧j6 a=true)∨(s.op=4∧∃ a b,s.args=[a,b]∧j6 a=true∧j6 b=true):=by
  rw [List.all_eq_true] at h4
  by_cases c:s.op=4
  ·have e : rN s.op = 2 := by unfold rN; rw [if_pos c]
   rw [e] at h2
   match ha:s.args,h2 with
   | [a,b],_=>exact .inr ⟨c,a,b,rfl,h4 a (by rw [ha];simp),h4 b (by rw [ha];simp)⟩
  ·have e : rN s.op = 1 := by unfold rN; rw [if_neg c]
   rw [e] at h2
   match ha:s.args,h2 with
   | [a],_=>exact .inl ⟨c,a,rfl,h4 a (by rw [ha];simp)⟩
 refine ⟨kQ.1 h1,hA,λhc=>?_,λhc=>?_,λhc=>?_,h6,h7⟩
 ·rw [if_pos hc] at h3;exact h3
 ·rw [if_neg hc,decide_eq_true_iff] at h3;exact h3
 ·have h5:=h5 hc
  rcases hA with ⟨_,a,ha,_⟩ | ⟨h,_⟩
  ·refine ⟨a,ha,?_⟩
   rw [ha] at h5
   simpa using h5
  ·omega
theorem tW {d:Nat} {s:fB} (h:kL (d+1) s=true):hdB s=true∧(∀ x∈s.body,kL d x=true)∧(∀ x∈s.else_,kL d x=true):=by
 rw [kL] at h
 simp only [Bool.and_eq_true,List.all_eq_true] at h
 exact ⟨h.1,h.2.1,h.2.2⟩
theorem pw {e:ey} (h:j6 e=true):vW (wE 6 e)∧wE 6 e≠[]∧(wE 6 e).length≤177:=by
 obtain ⟨h1,h2⟩:=re h
 have:=rn h1
 exact ⟨pd h1,rU h1,by omega⟩
theorem xd {s:Str} (h:ic s=true):k7 ⟨1,s⟩=true:=h
theorem ag7 {op:Int} {n:Str} (h:op=1∨op=2→ic n=true):vW (wHd op n):=by
 unfold wHd
 have k:∀ t∈[wy,xJ,xF,tIf,og,rQ,rP,tDo,tFn],k7 (kW t)=true:=by decide +kernel
 split
 ·exact jV (k _ (by simp)) (jV (xd (h (.inl ‹_›))) (jV rfl mw))
 split
 ·exact jV (xd (h (.inr ‹_›))) (jV rfl mw)
 repeat' split
 all_goals exact jV (k _ (by simp)) mw
theorem qy {ws:List eu} (h:vW ws):vW (wBr ws):=jV rfl (nb h (jV rfl mw))
theorem oV (ws:List eu):(wBr ws).length=ws.length+2:=by simp [wBr]
theorem nj:∀ (d:Nat) (l:List fB),(∀ s∈l,kL d s=true)→vW (wSL l)∧(wSL l).length≤400*kV l:=by
 intro d
 induction d with
 | zero =>
  intro l h
  cases l with
  | nil=>rw [pE];exact ⟨mw,by simp⟩
  | cons s l=>have:=h s (by simp);rw [kL] at this;cases this
 | succ d ih =>
  intro l
  induction l with
  | nil=>intro _;rw [pE];exact ⟨mw,by simp⟩
  | cons s l ihl =>
   intro h
   obtain ⟨g1,g2⟩:=ihl λx hx=>h x (by simp [hx])
   obtain ⟨h1,h2,h3⟩:=tW (h s (by simp))
   obtain ⟨a1,a2⟩:=ih _ h2
   obtain ⟨b1,b2⟩:=ih _ h3
   obtain ⟨i1,i2,i3,_⟩:=zf h1
   have hA:vW (aW (s.args.map (wE 6)))∧(aW (s.args.map (wE 6))).length≤355:=by
    rcases i2 with ⟨_,a,ha,va⟩ | ⟨_,a,b,ha,va,vb⟩
    ·obtain ⟨w1,_,w2⟩:=pw va
     rw [ha]
     simp [aW]
     exact ⟨w1,by omega⟩
    ·obtain ⟨w1,_,w2⟩:=pw va
     obtain ⟨x1,_,x2⟩:=pw vb
     rw [ha]
     simp [aW]
     exact ⟨nb w1 (jV rfl x1),by omega⟩
   have hh:=ac7 s.op s.name
   rw [ql,kS,l8,xr]
   constructor
   ·refine nb (nb (ag7 i3) (nb hA.1 ?_)) g1
    split
    ·refine nb (qy a1) ?_
     split
     ·exact mw
     ·exact jV rfl (qy b1)
    ·exact jV rfl mw
   ·have h2':=hA.2
    have:(if s.op=5∨s.op=6 then wBr (wSL s.body)++(if s.else_.isEmpty then [] else kW og::wBr (wSL s.else_)) else [sC]).length≤5+(wSL s.body).length+(wSL s.else_).length:=by
     split
     ·rw [List.length_append,oV]
      split
      ·simp;omega
      ·rw [List.length_cons,oV];omega
     ·simp;omega
    simp only [List.length_append]
    omega
theorem mT {X:Type} {s t:Str} {f:Str→Option X} {P:X→Prop} (h:s.b.length+t.b.length≤100000000) (k:∀ u:Str,u.b=s.b++t.b→u.b.length=s.b.length+t.b.length→∃ r,f u=some r∧P r):∃ r,(iE s t).bind f=some r∧P r:=by
 obtain ⟨u,u1,u2⟩:=j5 h
 obtain ⟨r,r1,r2⟩:=k u u2 (by rw [u2,List.length_append])
 exact ⟨r,fT u1 r1,r2⟩
theorem oE {X Y:Type} {o:Option Y} {y:Y} {f:Y→Option X} {P:X→Prop} (h:o=some y) (k:∃ r,f y=some r∧P r):∃ r,Option.bind o f=some r∧P r:=by
 obtain ⟨r,r1,r2⟩:=k
 exact ⟨r,fT h r1,r2⟩
theorem an8 {e:ey} (h:j6 e=true):∃ T,j4 e 1=some T∧T.b=txt (wE 6 e)∧T.b.length≤900:=by
 obtain ⟨h1,h2⟩:=re h
 obtain ⟨T,t1,t2⟩:=at5 6 e 1 h1 (by omega)
 have hlv:=bg0 h1
 have e1:decide (lvI e.op<1)=false:=decide_eq_false (by omega)
 rw [e1] at t2
 have t2:T.b=txt (wE 6 e):=t2
 have hl:=nk h1
 exact ⟨T,t1,t2,by rw [t2];omega⟩
theorem sG {s:Str} (h:ic s=true):s.b.length≤4:=by
 unfold ic at h
 simp only [Bool.and_eq_true,decide_eq_true_iff] at h
 exact h.1.2
def au5 (l:List fB):Prop:=∃ T,jS l=some T∧T.b=txt (wBr (wSL l))
theorem ua {ws:List eu} (h:vW ws):(txt (wBr ws)).length≤5*ws.length+10:=by
 have:=pq _ (qy h)
 rw [oV] at this
 omega
theorem c_b {l:List UInt8} (h:l.length≤140737488355328):(mkS l h).b.length=l.length:=rfl
theorem ay8 {s:fB} (h:hdB s=true) (hb:au5 s.body) (he:au5 s.else_) (lb:(txt (wBr (wSL s.body))).length≤30000000) (le:(txt (wBr (wSL s.else_))).length≤30000000):∃ T,mE s=some T∧T.b=txt (wSt s):=by
  obtain ⟨i1,i2,i3,i4,i5,i6,i7⟩:=zf h
  have hop:s.op=1∨s.op=2∨s.op=3∨s.op=4∨s.op=5∨s.op=6∨s.op=7∨s.op=8:=by omega
  rw [xr]
  obtain ⟨op,nm,args,body,els⟩:=s
  dsimp only at *
  rw [mE]
  dsimp only
  rcases i2 with ⟨n4,a,rfl,va⟩ | ⟨h4,a,b,rfl,va,vb⟩
  · obtain ⟨T,t1,t2,t3⟩:=an8 va
    obtain ⟨w1,w2,w3⟩:=pw va
    have hg:fW [a] 0=some a:=rfl
    have hA:aW ([a].map (wE 6))=wE 6 a:=by simp [aW]
    rw [hA]
    refine oE hg (oE t1 ?_)
    rcases hop with rfl | rfl | rfl | rfl | rfl | rfl | rfl | rfl
    · have hn:=sG (i3 (.inl rfl))
      rw [if_pos (by exact rfl)]
      refine mT (by rw [c_b];simp;omega) λu1 h1 l1=>?_
      rw [c_b] at l1
      simp only [List.length_cons,List.length_nil] at l1
      refine mT (by rw [c_b];simp;omega) λu2 h2 l2=>?_
      rw [c_b] at l2
      simp only [List.length_cons,List.length_nil] at l2
      refine mT (by omega) λu3 h3 l3=>?_
      refine mT (by rw [c_b];simp;omega) λu4 h4 l4=>⟨u4,rfl,?_⟩
      rw [h4,h3,h2,h1,t2]
      show _=txt (kW wy::⟨1,nm⟩::eQ::(wE 6 a++[sC]))
      rw [iv (by simp),iv (by simp),iv (by simp),kD w2 (by simp),lA]
      simp [mkS,kW,wy,eQ,sC]
    · have hn:=sG (i3 (.inr rfl))
      rw [if_neg (by exact Bool.false_ne_true),if_pos (by exact rfl)]
      refine mT (by rw [c_b];simp;omega) λu2 h2 l2=>?_
      rw [c_b] at l2
      simp only [List.length_cons,List.length_nil] at l2
      refine mT (by omega) λu3 h3 l3=>?_
      refine mT (by rw [c_b];simp;omega) λu4 h4 l4=>⟨u4,rfl,?_⟩
      rw [h4,h3,h2,t2]
      show _=txt (⟨1,nm⟩::eQ::(wE 6 a++[sC]))
      rw [iv (by simp),iv (by simp),kD w2 (by simp),lA]
      simp [mkS,eQ,sC]
    · rw [if_neg (by exact Bool.false_ne_true), if_neg (by exact Bool.false_ne_true), if_pos (by exact rfl)]
      refine mT (by rw [c_b];simp;omega) λu3 h3 l3=>?_
      rw [c_b] at l3
      simp only [List.length_cons,List.length_nil] at l3
      refine mT (by rw [c_b];simp;omega) λu4 h4 l4=>⟨u4,rfl,?_⟩
      rw [h4,h3,t2]
      show _=txt (kW xJ::(wE 6 a++[sC]))
      rw [iv (by simp),kD w2 (by simp),lA]
      simp [mkS,kW,xJ,sC]
    · exact absurd rfl n4
    · rw [if_neg (by exact Bool.false_ne_true), if_neg (by exact Bool.false_ne_true), if_neg (by exact Bool.false_ne_true), if_neg (by exact Bool.false_ne_true), if_neg (by exact Bool.false_ne_true), if_neg (by exact Bool.false_ne_true), if_neg (by exact Bool.false_ne_true)]
      obtain ⟨B,b1,b2⟩:=hb
      obtain ⟨E,e1,e2⟩:=he
      refine mT (by rw [c_b];simp;omega) λu3 h3 l3=>?_
      rw [c_b] at l3
      simp only [List.length_cons,List.length_nil] at l3
      refine mT (by rw [c_b];simp;omega) λu4 h4 l4=>?_
      rw [c_b] at l4
      simp only [List.length_cons,List.length_nil] at l4
      refine oE b1 (mT (by rw [b2];omega) λu5 h5 l5=>?_)
      rw [b2] at l5
      have k5:u5.b=txt (kW tIf::(wE 6 a++wBr (wSL body))):=by
        rw [h5,h4,h3,t2,b2,iv (by simp [wBr]),kD w2 (by simp [wBr])]
        simp [mkS,kW,tIf]
      cases els with
      | nil =>
        refine ⟨u5,rfl,?_⟩
        rw [k5]
        show _=txt (kW tIf::(wE 6 a++(wBr (wSL body)++[])))
        rw [List.append_nil]
      | cons x xs =>
        have hd:decide (0<((x::xs).length:Int))=true:=by simp
        rw [hd,if_pos rfl]
        have:∃ r,((iE u5 (mkS [32,101,108,115,101,32])).bind λuA=>(jS (x::xs)).bind λuB=>(iE uA uB).bind λuC=>some uC)=some r∧r.b=txt ((kW tIf::(wE 6 a++wBr (wSL body)))++kW og::wBr (wSL (x::xs))):=by
          refine mT (by rw [c_b];simp;omega) λu6 h6 l6=>?_
          rw [c_b] at l6
          simp only [List.length_cons,List.length_nil] at l6
          refine oE e1 (mT (by rw [e2];omega) λu7 h7 l7=>⟨u7,rfl,?_⟩)
          rw [h7,h6,k5,e2,kD (by simp) (by simp),iv (w:=kW og) (by simp [wBr])]
          simp [mkS,kW,og]
        obtain ⟨r,r1,r2⟩:=this
        refine ⟨r,fT r1 rfl,?_⟩
        rw [r2]
        show _=txt (kW tIf::(wE 6 a++(wBr (wSL body)++kW og::wBr (wSL (x::xs)))))
        rw [List.cons_append,List.append_assoc]
    · rw [if_neg (by exact Bool.false_ne_true), if_neg (by exact Bool.false_ne_true), if_neg (by exact Bool.false_ne_true), if_neg (by exact Bool.false_ne_true), if_pos (by exact rfl)]
      obtain ⟨B,b1,b2⟩:=hb
      have hels : els = [] := by rcases i6 with h | h
                                 · exact h
                                 · exact absurd h (by decide)
      subst hels
      refine mT (by rw [c_b];simp;omega) λu3 h3 l3=>?_
      rw [c_b] at l3
      simp only [List.length_cons,List.length_nil] at l3
      refine mT (by rw [c_b];simp;omega) λu4 h4 l4=>?_
      rw [c_b] at l4
      simp only [List.length_cons,List.length_nil] at l4
      refine oE b1 (mT (by rw [b2];omega) λu5 h5 l5=>⟨u5,rfl,?_⟩)
      show _=txt (kW rQ::(wE 6 a++(wBr (wSL body)++[])))
      rw [List.append_nil,h5,h4,h3,t2,b2,iv (by simp [wBr]),kD w2 (by simp [wBr])]
      simp [mkS,kW,rQ]
    · rw [if_neg (by exact Bool.false_ne_true), if_neg (by exact Bool.false_ne_true), if_neg (by exact Bool.false_ne_true), if_neg (by exact Bool.false_ne_true), if_neg (by exact Bool.false_ne_true), if_pos (by exact rfl)]
      refine mT (by rw [c_b];simp;omega) λu3 h3 l3=>?_
      rw [c_b] at l3
      simp only [List.length_cons,List.length_nil] at l3
      refine mT (by rw [c_b];simp;omega) λu4 h4 l4=>⟨u4,rfl,?_⟩
      rw [h4,h3,t2]
      show _=txt (kW rP::(wE 6 a++[sC]))
      rw [iv (by simp),kD w2 (by simp),lA]
      simp [mkS,kW,rP,sC]
    · rw [if_neg (by exact Bool.false_ne_true), if_neg (by exact Bool.false_ne_true), if_neg (by exact Bool.false_ne_true), if_neg (by exact Bool.false_ne_true), if_neg (by exact Bool.false_ne_true), if_neg (by exact Bool.false_ne_true), if_pos (by exact rfl)]
      refine mT (by rw [c_b];simp;omega) λu3 h3 l3=>?_
      rw [c_b] at l3
      simp only [List.length_cons,List.length_nil] at l3
      refine mT (by rw [c_b];simp;omega) λu4 h4 l4=>⟨u4,rfl,?_⟩
      rw [h4,h3,t2]
      show _=txt (kW tDo::(wE 6 a++[sC]))
      rw [iv (by simp),kD w2 (by simp),lA]
      simp [mkS,kW,tDo,sC]
  · subst h4
    obtain ⟨T,t1,t2,t3⟩:=an8 va
    obtain ⟨w1,w2,w3⟩:=pw va
    obtain ⟨T',t1',t2',t3'⟩:=an8 vb
    obtain ⟨w1',w2',w3'⟩:=pw vb
    have hg:fW [a,b] 0=some a:=rfl
    have hg1:fW [a,b] 1=some b:=rfl
    have hA:aW ([a,b].map (wE 6))=wE 6 a++cM::wE 6 b:=by simp [aW]
    rw [hA]
    refine oE hg (oE t1 ?_)
    rw [if_neg (by exact Bool.false_ne_true),if_neg (by exact Bool.false_ne_true),if_neg (by exact Bool.false_ne_true),if_pos (by exact rfl)]
    refine mT (by rw [c_b];simp;omega) λu3 h3 l3=>?_
    rw [c_b] at l3
    simp only [List.length_cons,List.length_nil] at l3
    refine mT (by rw [c_b];simp;omega) λu4 h4 l4=>?_
    rw [c_b] at l4
    simp only [List.length_cons,List.length_nil] at l4
    refine oE hg1 (oE t1' (mT (by omega) λu5 h5 l5=>?_))
    refine mT (by rw [c_b];simp;omega) λu6 h6 l6=>⟨u6,rfl,?_⟩
    rw [h6,h5,h4,h3,t2,t2']
    show _=txt (kW xF::(wE 6 a++cM::wE 6 b++[sC]))
    rw [iv (by simp),kD (by simp) (by simp),kD w2 (by simp),iv w2',lA]
    simp [mkS,kW,xF,sC,cM]
end Prg
end Go.Wk
namespace Go.Wk
open Go
namespace Prg
set_option maxRecDepth 10000
theorem ae3 {s:fB}:∀ {l:List fB},s∈l→zz s≤kV l
 | x::l,h=>by
  rw [kS]
  rcases List.mem_cons.1 h with rfl | h
  ·omega
  ·have:=ae3 h;omega
theorem xu {l:List fB} (h:vW (wSL l)∧(wSL l).length≤400*kV l) (hc:kV l≤10000):(txt (wBr (wSL l))).length≤30000000:=by
 have:=ua h.1
 omega
theorem ao0:∀ (d:Nat) (l:List fB),(∀ s∈l,kL d s=true)→kV l≤10000→au5 l:=by
 intro d
 induction d with
 | zero =>
  intro l h _
  cases l with
  | nil=>exact ⟨⟨[123,32,125],by decide⟩,by rw [jS];rfl,by rw [pE];rfl⟩
  | cons s l=>have:=h s (by simp);rw [kL] at this;cases this
 | succ d ih =>
  intro l h hc
  have hline:∀ x∈l,∃ T,mE x=some T∧T.b=txt (wSt x):=λx hx=>by
   obtain ⟨h1,h2,h3⟩:=tW (h x hx)
   have hcx:=ae3 hx
   rw [l8] at hcx
   exact ay8 h1 (ih _ h2 (by omega)) (ih _ h3 (by omega)) (xu (nj d _ h2) (by omega)) (xu (nj d _ h3) (by omega))
  have hlen:∀ l' r,l=l'++r→(txt (oB::wSL l')).length≤30000000:=λl' r he=>by
   have h1:=nj (d+1) l' λs hs=>h s (by rw [he];simp [hs])
   have h2:=pq _ (jV (w:=oB) rfl h1.1)
   rw [he,oG] at hc
   simp only [List.length_cons] at h2
   omega
  unfold au5
  rw [jS]
  rcases jI (xs := l) (body := (fun (uA : Int) (uB : Str) => ((iE uB (mkS [32])).bind fun uC => (fW l uA).bind fun uD => (mE uD).bind fun uE => (iE uC uE).bind fun uF => some (.inl uF) : Option ((Str) ⊕ (Empty))))) (s := (mkS [123])) (fun l' s => s.b = txt (oB :: wSL l')) (fun _ => False) (by rw [pE]; rfl) (fun l' x r s hx hI => .inl (by
   obtain ⟨T,t1,t2⟩:=hline x (by rw [hx];simp)
   have hg:fW l (l'.length:Int)=some x:=by rw [hx,iO]
   have k1:=hlen l' (x::r) hx
   have k2:=hlen (l'++[x]) r (by rw [hx];simp)
   have e:txt (oB::wSL (l'++[x]))=txt (oB::wSL l')++32::txt (wSt x):=by
    rw [v8,ad1,← List.cons_append,kD (by simp) (be5 x)]
   rw [e,List.length_append,List.length_cons] at k2
   have:∃ z,(λ(uA:Int) (uB:Str)=>((iE uB (mkS [32])).bind λuC=>(fW l uA).bind λuD=>(mE uD).bind λuE=>(iE uC uE).bind λuF=>some (.inl uF):Option ((Str) ⊕ (Empty)))) (l'.length:Int) s=some (.inl z)∧z.b=txt (oB::wSL (l'++[x])):=by
    obtain ⟨y,y1,y2⟩:=j5 (s:=s) (t:=mkS [32]) (by rw [hI,c_b];simp;omega)
    obtain ⟨z,z1,z2⟩:=j5 (s:=y) (t:=T) (by rw [y2,List.length_append,hI,t2,c_b];simp;omega)
    refine ⟨z,?_,?_⟩
    ·simp only [y1,hg,t1,z1,obS]
    ·rw [e,z2,y2,hI,t2]
     simp [mkS]
   exact this)) with ⟨s,h1,h2⟩ | ⟨_,_,h2⟩
  ·obtain ⟨z, z1, z2⟩ := j5 (s := s) (t := mkS [32, 125]) (by rw [h2, c_b]; have := hlen l [] (by simp); simp; omega)
   refine ⟨z,?_,?_⟩
   ·rw [h1]
    simp only [obS,Sum.elim_inl,z1]
   ·rw [z2,h2]
    show _=txt (oB::wSL l++[cB])
    rw [kD (by simp) (by simp),lA]
    simp [mkS,cB]
  ·exact h2.elim
theorem xk {f:Fn_} (h:fnB f=true):ic f.name=true∧f.params.length≤3∧(∀ s∈f.params,ic s=true)∧(∀ s∈f.body,kL 4 s=true):=by
 unfold fnB at h
 simp only [Bool.and_eq_true,decide_eq_true_iff,List.all_eq_true] at h
 exact ⟨h.1,h.2.1,h.2.2.1,h.2.2.2⟩
theorem ym (l:List Str) (x:Str):wPa (l++[x])=if l=[] then [⟨1,x⟩] else wPa l++[cM,⟨1,x⟩]:=by
 unfold wPa
 rw [List.map_append,List.map_cons,List.map_nil,vn]
 by_cases h:l=[]
 ·subst h;rfl
 ·rw [if_neg (by simpa using h),if_neg h]
theorem ap4:∀ {l:List Str},(∀ s∈l,ic s=true)→vW (wPa l)∧(wPa l).length≤2*l.length:=by
 intro l h
 unfold wPa
 refine ⟨yi λx hx=>?_,?_⟩
 ·obtain ⟨s,hs,rfl⟩:=List.mem_map.1 hx
  exact jV (xd (h s hs)) mw
 ·have:=aq4 (l.map λs=>[(⟨1,s⟩:eu)])
  have e:((l.map λs=>[(⟨1,s⟩:eu)]).map List.length).sum=l.length:=by
   clear this h
   induction l with
   | nil=>rfl
   | cons a l ih=>simp only [List.map_cons,List.sum_cons,ih,List.length_cons,List.length_nil];omega
  rw [e] at this
  simp only [List.length_map] at this
  omega
theorem ap9 {f:Fn_} (h:fnB f=true):vW (wFn f)∧(wFn f).length≤400*kV f.body+12∧wFn f≠[]:=by
 obtain ⟨h1,h2,h3,h4⟩:=xk h
 obtain ⟨a1,a2⟩:=ap4 h3
 obtain ⟨b1,b2⟩:=nj 4 _ h4
 unfold wFn
 refine ⟨jV (w:=kW tFn) (by decide +kernel) (jV (xd h1) (jV rfl (nb a1 (jV rfl (qy b1))))),?_,by simp⟩
 simp only [List.length_cons,List.length_append,oV]
 omega
theorem yC:∀ {l:List Fn_},(∀ f∈l,fnB f=true)→vW (wFs l)∧(wFs l).length≤400*me l+12*l.length
 | [],_=>⟨mw,by simp [wFs]⟩
 | f::l,h=>by
  obtain ⟨h1,h2⟩:=yC (l:=l) λg hg=>h g (by simp [hg])
  obtain ⟨h3,h4,_⟩:=ap9 (h f (by simp))
  rw [wFs,me]
  refine ⟨nb h3 h1,?_⟩
  simp only [List.length_append,List.length_cons]
  omega
theorem ag4 {p:fZ} (hp:kY p=true) (hc:me p.fns≤1000):∃ T,nt p=some T∧T.b=txt (wFs p.fns):=by
 have hpp:((p.fns.length:Int)≤4)∧∀ f∈p.fns,fnB f=true:=by
  unfold kY at hp
  simp only [Bool.and_eq_true,List.all_eq_true] at hp
  exact ⟨(kQ.1 hp.1).2,hp.2.1⟩
 obtain ⟨hl4,hf⟩:=hpp
 have hlen:∀ l' r,p.fns=l'++r→(txt (wFs l')).length≤5000000:=λl' r he=>by
  have h1:=yC (l:=l') λg hg=>hf g (by rw [he];simp [hg])
  have h2:=pq _ h1.1
  rw [he,o9] at hc
  rw [he,List.length_append] at hl4
  omega
 unfold nt
 rcases jI (xs := p.fns) (body := (fun (uI : Int) (uJ : Str) => ((fW p.fns uI).bind fun uC => (if decide (0 < uI) then (iE uJ (mkS [32])).bind fun uK => some uK else some uJ : Option (Str)).bind fun uL => (iE uL (mkS [102, 110, 32])).bind fun uM => (iE uM uC.name).bind fun uN => (iE uN (mkS [32, 40])).bind fun uO => (forN (S := Str) (X := Empty) (fun uA uB => (if decide (0 < uA) then (iE uB (mkS [32, 44])).bind fun uD => some uD else some uB : Option (Str)).bind fun uE => (iE uE (mkS [32])).bind fun uF => (fW uC.params uA).bind fun uG => (iE uF uG).bind fun uH => some (.inl uH)) (((uC.params.length : Int) : Int) - 0).toNat 0 uO).bind (Sum.elim (fun uP => (iE uP (mkS [32, 41, 32])).bind fun uQ => (jS uC.body).bind fun uR => (iE uQ uR).bind fun uS => some (.inl uS)) (fun (e0 : Empty) => nomatch e0)) : Option ((Str) ⊕ (Empty))))) (s := (mkS [])) (fun l' s => s.b = txt (wFs l')) (fun _ => False) rfl (fun l' f r s hx hI => .inl (by
  have hff:=hf f (by rw [hx];simp)
  obtain ⟨f1,f2,f3,f4⟩:=xk hff
  obtain ⟨v1,v2,v3⟩:=ap9 hff
  have hg:fW p.fns (l'.length:Int)=some f:=by rw [hx,iO]
  have k1:=hlen l' (f::r) hx
  have hcf:kV f.body≤1000:=by
   rw [hx,o9,me] at hc
   omega
  have hbt:=xu (nj 4 _ f4) (by omega)
  have hbl:=ua (nj 4 _ f4).1
  have hbl2:=(nj 4 _ f4).2
  obtain ⟨B,b1,b2⟩:=ao0 4 f.body f4 (by omega)
  have hn:=sG f1
  suffices hz:∃ z,(λ(uI:Int) (uJ:Str)=>((fW p.fns uI).bind λuC=>(if decide (0<uI) then (iE uJ (mkS [32])).bind λuK=>some uK else some uJ:Option (Str)).bind λuL=>(iE uL (mkS [102,110,32])).bind λuM=>(iE uM uC.name).bind λuN=>(iE uN (mkS [32,40])).bind λuO=>(forN (S:=Str) (X:=Empty) (λuA uB=>(if decide (0<uA) then (iE uB (mkS [32,44])).bind λuD=>some uD else some uB:Option (Str)).bind λuE=>(iE uE (mkS [32])).bind λuF=>(fW uC.params uA).bind λuG=>(iE uF uG).bind λuH=>some (.inl uH)) (((uC.params.length:Int):Int) - 0).toNat 0 uO).bind (Sum.elim (λuP=>(iE uP (mkS [32,41,32])).bind λuQ=>(jS uC.body).bind λuR=>(iE uQ uR).bind λuS=>some (.inl uS)) (λ(e0:Empty)=>nomatch e0)):Option ((Str) ⊕ (Empty)))) (l'.length:Int) s=some z∧∃ u:Str,z=.inl u∧u.b=txt (wFs (l'++[f])) by
   obtain ⟨z,z1,u,rfl,z2⟩:=hz
   exact ⟨u,z1,z2⟩
  dsimp only
  refine oE hg ?_
  have hS:∃ s1,(if decide (0<(l'.length:Int)) then (iE s (mkS [32])).bind λuK=>some uK else some s:Option Str)=some s1∧(s1.b.length≤5000001∧∀ ws,ws≠[]→s1.b++txt ws=txt (wFs l'++ws)):=by
   by_cases hl0:l'=[]
   ·subst hl0
    refine ⟨s,rfl,by rw [hI];omega,λws _=>?_⟩
    rw [hI];rfl
   ·have hd : decide (0 < (l'.length : Int)) = true := by have := List.length_pos_iff.2 hl0; simp; omega
    rw [hd,if_pos rfl]
    obtain ⟨y,y1,y2⟩:=j5 (s:=s) (t:=mkS [32]) (by rw [hI,c_b];simp;omega)
    refine ⟨y,fT y1 rfl,by rw [y2,List.length_append,hI,c_b];simp;omega,λws hws=>?_⟩
    have hne:wFs l'≠[]:=by
     cases l' with
     | nil=>exact absurd rfl hl0
     | cons a l'=>rw [wFs];intro h;exact absurd (List.append_eq_nil_iff.1 h).1 (by simp [wFn])
    rw [y2,hI,kD hne hws]
    simp [mkS]
  obtain ⟨s1,s2,s3,s4⟩:=hS
  refine oE s2 ?_
  refine mT (by rw [c_b];simp;omega) λu2 h2 l2=>?_
  rw [c_b] at l2
  simp only [List.length_cons,List.length_nil] at l2
  refine mT (by omega) λu3 h3 l3=>?_
  refine mT (by rw [c_b];simp;omega) λu4 h4 l4=>?_
  rw [c_b] at l4
  simp only [List.length_cons,List.length_nil] at l4
  have q4:u4.b=txt (wFs l'++[kW tFn,⟨1,f.name⟩,pL]):=by
   rw [← s4 _ (by simp),h4,h3,h2,iv (by simp),iv (by simp),lA]
   simp [mkS,kW,tFn,pL]
  rcases jI (xs := f.params) (body := (fun (uA : Int) (uB : Str) => ((if decide (0 < uA) then (iE uB (mkS [32, 44])).bind fun uD => some uD else some uB : Option (Str)).bind fun uE => (iE uE (mkS [32])).bind fun uF => (fW f.params uA).bind fun uG => (iE uF uG).bind fun uH => some (.inl uH) : Option ((Str) ⊕ (Empty))))) (s := u4) (fun l s => s.b = txt (wFs l' ++ [kW tFn, ⟨1, f.name⟩, pL] ++ wPa l) ∧ s.b.length ≤ 5000100 + 10 * l.length) (fun _ => False) ⟨by rw [q4]; simp [wPa, aW], by omega⟩ (fun l x r' s hx' hJ => .inl (by
   obtain ⟨hJ,hJ2⟩:=hJ
   have hnx:=sG (f3 x (by rw [hx'];simp))
   have hl3:l.length+r'.length+1≤3:=by
    have:=congrArg List.length hx'
    simp at this
    omega
   have hg':fW f.params (l.length:Int)=some x:=by rw [hx',iO]
   suffices hz:∃ z,(λ(uA:Int) (uB:Str)=>((if decide (0<uA) then (iE uB (mkS [32,44])).bind λuD=>some uD else some uB:Option (Str)).bind λuE=>(iE uE (mkS [32])).bind λuF=>(fW f.params uA).bind λuG=>(iE uF uG).bind λuH=>some (.inl uH):Option ((Str) ⊕ (Empty)))) (l.length:Int) s=some z∧∃ u:Str,z=.inl u∧(u.b=txt (wFs l'++[kW tFn,⟨1,f.name⟩,pL]++wPa (l++[x]))∧u.b.length≤5000100+10*(l++[x]).length) by
    obtain ⟨z,z1,u,rfl,z2⟩:=hz
    exact ⟨u,z1,z2⟩
   dsimp only
   rw [ym,List.length_append]
   by_cases hl0:l=[]
   ·subst hl0
    rw [if_pos rfl]
    refine oE (y:=s) rfl ?_
    refine mT (by rw [c_b];simp at hJ2 ⊢;omega) λw1 g1 m1=>?_
    rw [c_b] at m1
    simp only [List.length_cons,List.length_nil] at m1 hJ2
    refine oE hg' (mT (by omega) λw2 g2 m2=>⟨_,rfl,w2,rfl,?_,by simp only [List.length_cons,List.length_nil];omega⟩)
    rw [g2,g1,hJ,show wPa ([]:List Str)=[] from rfl,List.append_nil,kD (a:=wFs l'++[kW tFn,⟨1,f.name⟩,pL]) (by simp) (by simp),lA]
    simp [mkS]
   ·have hd : decide (0 < (l.length : Int)) = true := by have := List.length_pos_iff.2 hl0; simp; omega
    rw [if_neg hl0,hd,if_pos rfl]
    obtain ⟨q,q1,q2⟩:=j5 (s:=s) (t:=mkS [32,44]) (by rw [c_b];simp;omega)
    have q3:q.b.length=s.b.length+2:=by rw [q2,List.length_append];rfl
    refine oE (y:=q) (fT q1 rfl) ?_
    refine mT (by rw [c_b];simp;omega) λw1 g1 m1=>?_
    rw [c_b] at m1
    simp only [List.length_cons,List.length_nil] at m1
    refine oE hg' (mT (by omega) λw2 g2 m2=>⟨_,rfl,w2,rfl,?_,by simp only [List.length_cons,List.length_nil];omega⟩)
    rw [g2,g1,q2,hJ,← List.append_assoc,kD (a:=wFs l'++[kW tFn,⟨1,f.name⟩,pL]++wPa l) (by simp) (by simp),iv (by simp),lA]
    simp [mkS,cM])) with ⟨s5,h5,h6,h7⟩ | ⟨_,_,h6⟩
  ·refine oE (y:=.inl s5) h5 ?_
   rw [Sum.elim_inl]
   refine mT (by rw [c_b];simp;omega) λu5 h8 l5=>?_
   rw [c_b] at l5
   simp only [List.length_cons,List.length_nil] at l5
   refine oE b1 (mT (by rw [b2];omega) λu6 h9 l6=>⟨_,rfl,u6,rfl,?_⟩)
   rw [h9,h8,h6,b2,vp]
   show _=txt (wFs l'++(kW tFn::⟨1,f.name⟩::pL::(wPa f.params++pR::wBr (wSL f.body))++[]))
   have e:wFs l'++(kW tFn::⟨1,f.name⟩::pL::(wPa f.params++pR::wBr (wSL f.body))++[])=(wFs l'++[kW tFn,⟨1,f.name⟩,pL]++wPa f.params)++pR::wBr (wSL f.body):=by simp
   rw [e,kD (a:=wFs l'++[kW tFn,⟨1,f.name⟩,pL]++wPa f.params) (by simp) (by simp),iv (w:=pR) (by simp [wBr])]
   simp [mkS,pR]
  ·exact h6.elim)) with ⟨s,h1,h2⟩ | ⟨_,_,h2⟩
 ·exact ⟨s,fT h1 rfl,h2⟩
 ·exact h2.elim
end Prg
end Go.Wk
namespace Go.Wk
open Go
namespace Prg
set_option maxRecDepth 10000
theorem zd {e:ey} (h:j6 e=true) {list:List eu} (hl:list.length≤90000):iB list e false=some (list++wE 6 e):=by
 obtain ⟨h1,h2⟩:=re h
 have:=rn h1
 exact aj0 6 e list false h1 (by omega)
theorem sgK (t:Str):fN t=some ⟨3,t⟩:=rfl
theorem kyK (t:Str):fg t=some (kW t):=rfl
theorem nmK (t:Str):gp t=some ⟨1,t⟩:=rfl
theorem apK {a b:List eu} (h:a.length+b.length≤1000000):fq a b=some (a++b):=jH (by omega)
def BwD (l:List fB):Prop:=∀ list:List eu,list.length+(wSL l).length≤79979→iJ list l=some (list++wBr (wSL l))
theorem stW {s:fB} (h:hdB s=true) (hb:BwD s.body) (he:BwD s.else_) {body:List fB} {i:Int} (hi:fW body i=some s) {list:List eu} (hl:list.length+(wSt s).length≤79980):(λ(vN:Int) (uB:(List eu))=>(((fW body vN).bind λuA=>((if decide (uA.op=1) then (fg (mkS [108,101,116])).bind λuE=>(gp uA.name).bind λuF=>(fN (mkS [61])).bind λuG=>(fq uB ([uE,uF,uG]:List eu)).bind λuH=>some uH else (if decide (uA.op=2) then (gp uA.name).bind λuI=>(fN (mkS [61])).bind λuJ=>(fq uB ([uI,uJ]:List eu)).bind λuK=>some uK else (if decide (uA.op=3) then (fg (mkS [115,97,121])).bind λuL=>(fq uB ([uL]:List eu)).bind λuM=>some uM else (if decide (uA.op=4) then (fg (mkS [112,117,116])).bind λuN=>(fq uB ([uN]:List eu)).bind λuO=>some uO else (if decide (uA.op=5) then (fg (mkS [105,102])).bind λuP=>(fq uB ([uP]:List eu)).bind λuQ=>some uQ else (if decide (uA.op=6) then (fg (mkS [108,111,111,112])).bind λuR=>(fq uB ([uR]:List eu)).bind λuS=>some uS else (if decide (uA.op=7) then (fg (mkS [98,97,99,107])).bind λuT=>(fq uB ([uT]:List eu)).bind λuU=>some uU else (if decide (uA.op=8) then (fg (mkS [100,111])).bind λuV=>(fq uB ([uV]:List eu)).bind λuW=>some uW else some uB:Option ((List eu))).bind λuX=>some uX:Option ((List eu))).bind λuY=>some uY:Option ((List eu))).bind λuZ=>some uZ:Option ((List eu))).bind λvA=>some vA:Option ((List eu))).bind λvB=>some vB:Option ((List eu))).bind λvC=>some vC:Option ((List eu))).bind λvE=>some vE:Option ((List eu))).bind λvF=>some vF:Option ((List eu))).bind λvO=>(forN (S:=(List eu)) (X:=Empty) (λuC uD=>(fW uA.args uC).bind λvG=>(if decide (0<uC) then (fN (mkS [44])).bind λvH=>(fq uD ([vH]:List eu)).bind λvI=>some vI else some uD:Option ((List eu))).bind λvJ=>(iB vJ vG false).bind λvK=>some (.inl vK)) (((uA.args.length:Int):Int) - 0).toNat 0 vO).bind (Sum.elim (λvL=>(if decide (uA.op≠5) then some (decide (uA.op≠6)) else some false:Option (Bool)).bind λvP=>if vP then (fN (mkS [59])).bind λvQ=>(fq vL ([vQ]:List eu)).bind λvR=>some vR else (iJ vL uA.body).bind λvM=>(if decide (0<((uA.else_.length:Int))) then (fg (mkS [101,108,115,101])).bind λvS=>(fq vM ([vS]:List eu)).bind λvT=>(iJ vT uA.else_).bind λvU=>some vU else some vM:Option ((List eu))).bind λvV=>some vV) (λ(e0:Empty)=>nomatch e0)):Option ((List eu))).bind λvX=>some (.inl vX):Option (((List eu)) ⊕ (Empty)))) i list=some (.inl (list++wSt s)):=by
 obtain ⟨i1,i2,i3,i4,i5,i6,i7⟩:=zf h
 have hop:s.op=1∨s.op=2∨s.op=3∨s.op=4∨s.op=5∨s.op=6∨s.op=7∨s.op=8:=by omega
 rw [xr] at hl ⊢
 obtain ⟨op,nm,args,body',els⟩:=s
 dsimp only at *
 have hhl:=ac7 op nm
 have hH:((if decide (op=1) then (fg (mkS [108,101,116])).bind λuE=>(gp nm).bind λuF=>(fN (mkS [61])).bind λuG=>(fq list ([uE,uF,uG]:List eu)).bind λuH=>some uH else (if decide (op=2) then (gp nm).bind λuI=>(fN (mkS [61])).bind λuJ=>(fq list ([uI,uJ]:List eu)).bind λuK=>some uK else (if decide (op=3) then (fg (mkS [115,97,121])).bind λuL=>(fq list ([uL]:List eu)).bind λuM=>some uM else (if decide (op=4) then (fg (mkS [112,117,116])).bind λuN=>(fq list ([uN]:List eu)).bind λuO=>some uO else (if decide (op=5) then (fg (mkS [105,102])).bind λuP=>(fq list ([uP]:List eu)).bind λuQ=>some uQ else (if decide (op=6) then (fg (mkS [108,111,111,112])).bind λuR=>(fq list ([uR]:List eu)).bind λuS=>some uS else (if decide (op=7) then (fg (mkS [98,97,99,107])).bind λuT=>(fq list ([uT]:List eu)).bind λuU=>some uU else (if decide (op=8) then (fg (mkS [100,111])).bind λuV=>(fq list ([uV]:List eu)).bind λuW=>some uW else some list:Option ((List eu))).bind λuX=>some uX:Option ((List eu))).bind λuY=>some uY:Option ((List eu))).bind λuZ=>some uZ:Option ((List eu))).bind λvA=>some vA:Option ((List eu))).bind λvB=>some vB:Option ((List eu))).bind λvC=>some vC:Option ((List eu))).bind λvE=>some vE:Option ((List eu))).bind λvF=>some vF:Option ((List eu)))=some (list++wHd op nm):=by
  have a3:∀ x y z:eu,fq list [x,y,z]=some (list++[x,y,z]):=λ_ _ _=>apK (by simp at hl ⊢;omega)
  have a2:∀ x y:eu,fq list [x,y]=some (list++[x,y]):=λ_ _=>apK (by simp at hl ⊢;omega)
  have a1:∀ x:eu,fq list [x]=some (list++[x]):=λ_=>apK (by simp at hl ⊢;omega)
  simp only [kyK,nmK,sgK,obS,a1,a2,a3]
  rcases hop with rfl | rfl | rfl | rfl | rfl | rfl | rfl | rfl<;>rfl
 refine fT (fT hi (fT hH ?_)) rfl
 have hl1:list.length+(wHd op nm).length≤80000:=by
  simp only [List.length_append] at hl
  omega
 have hA:forN (S:=List eu) (X:=Empty) (λuC uD=>(fW args uC).bind λvG=>(if decide (0<uC) then (fN (mkS [44])).bind λvH=>(fq uD ([vH]:List eu)).bind λvI=>some vI else some uD:Option ((List eu))).bind λvJ=>(iB vJ vG false).bind λvK=>some (.inl vK)) (((args.length:Int):Int) - 0).toNat 0 (list++wHd op nm)=some (.inl (list++wHd op nm++aW (args.map (wE 6)))):=by
  generalize hL:list++wHd op nm=L
  have hLl:L.length≤80000:=by rw [← hL,List.length_append];exact hl1
  rcases i2 with ⟨_,a,rfl,va⟩ | ⟨_,a,b,rfl,va,vb⟩
  ·have w1 := zd va (list := L) (by omega)
   have e1:(([a].length:Int) - 0).toNat=1:=rfl
   rw [e1,pb (s':=L++wE 6 a) (by
    show (some a).bind _=_
    simp only [obS,show decide ((0:Int)<0)=false from rfl,Bool.false_eq_true,if_false,w1])]
   simp only [List.map_cons,List.map_nil,aW,List.flatten_nil,List.append_nil]
   rfl
  ·have w1 := zd va (list := L) (by omega)
   obtain ⟨_,_,l1⟩:=pw va
   have a1:fq (L++wE 6 a) [(⟨3,mkS [44]⟩:eu)]=some (L++wE 6 a++[cM]):=apK (by simp;omega)
   have w2:=zd vb (list:=L++wE 6 a++[cM]) (by simp;omega)
   have e2:(([a,b].length:Int) - 0).toNat=2:=rfl
   rw [e2,pb (s':=L++wE 6 a) (by
    show (some a).bind _=_
    simp only [obS,show decide ((0:Int)<0)=false from rfl,Bool.false_eq_true,if_false,w1]),pb (s':=L++wE 6 a++[cM]++wE 6 b) (by
    show (some b).bind _=_
    simp only [obS,show decide ((0:Int)<0+1)=true from rfl,if_true,sgK,a1,w2])]
   simp only [List.map_cons,List.map_nil,aW,List.flatten_nil,List.append_nil,List.flatten_cons,List.append_assoc,List.cons_append,List.nil_append]
   rfl
 refine fT hA ?_
 rw [Sum.elim_inl]
 have hal:(list++wHd op nm++aW (args.map (wE 6))).length+(if op=5∨op=6 then wBr (wSL body')++(if els.isEmpty then [] else kW og::wBr (wSL els)) else [sC]).length≤79980:=by
  simp only [List.length_append] at hl ⊢
  omega
 have eL:list++(wHd op nm++(aW (args.map (wE 6))++(if op=5∨op=6 then wBr (wSL body')++(if els.isEmpty then [] else kW og::wBr (wSL els)) else [sC])))=list++wHd op nm++aW (args.map (wE 6))++(if op=5∨op=6 then wBr (wSL body')++(if els.isEmpty then [] else kW og::wBr (wSL els)) else [sC]):=by simp only [List.append_assoc]
 rw [eL]
 generalize list++wHd op nm++aW (args.map (wE 6))=M at hal
 by_cases c:op=5∨op=6
 ·rw [if_pos c] at hal ⊢
  have hg:(if decide (op≠5) then some (decide (op≠6)) else some false:Option Bool)=some false:=by rcases c with rfl | rfl<;>rfl
  refine fT hg ?_
  rw [if_neg Bool.false_ne_true]
  rw [List.length_append,oV] at hal
  refine fT (hb M (by omega)) ?_
  cases els with
  | nil =>
   have:M++(wBr (wSL body')++(if ([]:List fB).isEmpty then [] else kW og::wBr (wSL ([]:List fB))))=M++wBr (wSL body'):=by simp
   rw [this];rfl
  | cons x xs =>
   have hd:decide (0<((x::xs).length:Int))=true:=by simp
   have h0:(x::xs).isEmpty=false:=rfl
   rw [h0,if_neg Bool.false_ne_true,List.length_cons,oV] at hal
   rw [hd,if_pos rfl,h0,if_neg Bool.false_ne_true]
   refine fT (fT (kyK _) (fT (apK (by simp [oV];omega)) (fT (he _ (by simp [oV];omega)) rfl))) ?_
   simp [og]
 ·rw [if_neg c] at hal ⊢
  have hg:(if decide (op≠5) then some (decide (op≠6)) else some false:Option Bool)=some true:=by
   have h5:decide (op≠5)=true:=decide_eq_true λh=>c (.inl h)
   have h6:decide (op≠6)=true:=decide_eq_true λh=>c (.inr h)
   rw [h5,h6];rfl
  refine fT hg ?_
  rw [if_pos rfl]
  exact fT (sgK _) (fT (apK (by simp at hal ⊢;omega)) rfl)
theorem bh3:∀ (d:Nat) (l:List fB),(∀ s∈l,kL d s=true)→BwD l:=by
 intro d
 induction d with
 | zero =>
  intro l h
  cases l with
  | nil =>
   intro list hl
   rw [iJ]
   have e:lN (list++[oB]) []=some (list++[oB]):=by rw [lN];rfl
   refine fT (sgK _) (fT (apK (by simp;omega)) (fT e (fT (sgK _) (fT (apK (by simp;omega)) ?_))))
   rw [pE];simp [wBr,cB,oB]
  | cons s l=>have:=h s (by simp);rw [kL] at this;cases this
 | succ d ih =>
  intro l h list hl
  have key:∀ L:List eu,L.length+(wSL l).length≤79980→lN L l=some (L++wSL l):=by
   intro L hL
   rw [lN]
   rcases jI (xs := l) (body := (fun (uG : Int) (uB : (List eu)) => (((fW l uG).bind fun uA => ((if decide (uA.op = 1) then (fg (mkS [108, 101, 116])).bind fun uH => (gp uA.name).bind fun uI => (fN (mkS [61])).bind fun uJ => (fq uB ([uH, uI, uJ] : List eu)).bind fun uK => some uK else (if decide (uA.op = 2) then (gp uA.name).bind fun uL => (fN (mkS [61])).bind fun uM => (fq uB ([uL, uM] : List eu)).bind fun uN => some uN else (if decide (uA.op = 3) then (fg (mkS [115, 97, 121])).bind fun uO => (fq uB ([uO] : List eu)).bind fun uP => some uP else (if decide (uA.op = 4) then (fg (mkS [112, 117, 116])).bind fun uQ => (fq uB ([uQ] : List eu)).bind fun uR => some uR else (if decide (uA.op = 5) then (fg (mkS [105, 102])).bind fun uS => (fq uB ([uS] : List eu)).bind fun uT => some uT else (if decide (uA.op = 6) then (fg (mkS [108, 111, 111, 112])).bind fun uU => (fq uB ([uU] : List eu)).bind fun uV => some uV else (if decide (uA.op = 7) then (fg (mkS [98, 97, 99, 107])).bind fun uW => (fq uB ([uW] : List eu)).bind fun uX => some uX else (if decide (uA.op = 8) then (fg (mkS [100, 111])).bind fun uY => (fq uB ([uY] : List eu)).bind fun uZ => some uZ else some uB : Option ((List eu))).bind fun vA => some vA : Option ((List eu))).bind fun vB => some vB : Option ((List eu))).bind fun vC => some vC : Option ((List eu))).bind fun vE => some vE : Option ((List eu))).bind fun vF => some vF : Option ((List eu))).bind fun vG => some vG : Option ((List eu))).bind fun vH => some vH : Option ((List eu))).bind fun vI => some vI : Option ((List eu))).bind fun vJ => (forN (S := (List eu)) (X := Empty) (fun uC uD => (fW uA.args uC).bind fun vK => (if decide (0 < uC) then (fN (mkS [44])).bind fun vL => (fq uD ([vL] : List eu)).bind fun vM => some vM else some uD : Option ((List eu))).bind fun vN => (iB vN vK false).bind fun vO => some (.inl vO)) (((uA.args.length : Int) : Int) - 0).toNat 0 vJ).bind (Sum.elim (fun uE => (if decide (uA.op ≠ 5) then some (decide (uA.op ≠ 6)) else some false : Option (Bool)).bind fun vP => if vP then (fN (mkS [59])).bind fun vQ => (fq uE ([vQ] : List eu)).bind fun vR => some vR else (iJ uE uA.body).bind fun uF => (if decide (0 < ((uA.else_.length : Int))) then (fg (mkS [101, 108, 115, 101])).bind fun vS => (fq uF ([vS] : List eu)).bind fun vT => (iJ vT uA.else_).bind fun vU => some vU else some uF : Option ((List eu))).bind fun vV => some vV) (fun (e0 : Empty) => nomatch e0)) : Option ((List eu))).bind fun vX => some (.inl vX) : Option (((List eu)) ⊕ (Empty))))) (s := L) (fun l' s => s = L ++ wSL l') (fun _ => False) (by rw [pE, List.append_nil]) (fun l' x r s hx hI => .inl (by
    subst hI
    obtain ⟨h1,h2,h3⟩:=tW (h x (by rw [hx];simp))
    refine ⟨_,stW h1 (ih _ h2) (ih _ h3) (by rw [hx,iO]) ?_,?_⟩
    ·rw [hx,v8,ql,List.length_append,List.length_append] at hL
     rw [List.length_append]
     omega
    ·rw [v8,ad1,List.append_assoc])) with ⟨s,h1,h2⟩ | ⟨_,_,h2⟩
   ·subst h2
    exact fT h1 rfl
   ·exact h2.elim
  rw [iJ]
  refine fT (sgK _) (fT (apK (by simp;omega)) ?_)
  refine fT (key _ (by simp;omega)) (fT (sgK _) (fT (apK (by simp;omega)) ?_))
  simp [wBr,cB,oB]
theorem fnW {p:fZ} {f:Fn_} (hf:fnB f=true) {i:Int} (hi:fW p.fns i=some f) {list:List eu} (hl:list.length+(wFn f).length≤79000):(λ(uJ:Int) (uK:(List eu))=>((fW p.fns uJ).bind λuC=>(fg (mkS [102,110])).bind λuL=>(gp uC.name).bind λuM=>(fN (mkS [40])).bind λuN=>(fq uK ([uL,uM,uN]:List eu)).bind λuO=>(forN (S:=(List eu)) (X:=Empty) (λuA uB=>(fW uC.params uA).bind λuD=>(if decide (0<uA) then (fN (mkS [44])).bind λuE=>(fq uB ([uE]:List eu)).bind λuF=>some uF else some uB:Option ((List eu))).bind λuG=>(gp uD).bind λuH=>(fq uG ([uH]:List eu)).bind λuI=>some (.inl uI)) (((uC.params.length:Int):Int) - 0).toNat 0 uO).bind (Sum.elim (λuP=>(fN (mkS [41])).bind λuQ=>(fq uP ([uQ]:List eu)).bind λuR=>(iJ uR uC.body).bind λuS=>some (.inl uS)) (λ(e0:Empty)=>nomatch e0)):Option (((List eu)) ⊕ (Empty)))) i list=some (.inl (list++wFn f)):=by
 obtain ⟨f1,f2,f3,f4⟩:=xk hf
 have hl2:list.length+(wPa f.params).length+(wSL f.body).length≤78995:=by
  unfold wFn at hl
  simp only [List.length_cons,List.length_append,oV] at hl
  omega
 have h1:fq list [kW tFn,⟨1,f.name⟩,⟨3,mkS [40]⟩]=some (list++[kW tFn,⟨1,f.name⟩,pL]):=apK (by simp;omega)
 refine fT hi (fT (kyK _) (fT (nmK _) (fT (sgK _) (fT h1 ?_))))
 generalize hL:list++[kW tFn,⟨1,f.name⟩,pL]=L
 have hLl:L.length=list.length+3:=by rw [← hL];simp
 rcases jI (xs := f.params) (body := (fun (uA : Int) (uB : (List eu)) => ((fW f.params uA).bind fun uD => (if decide (0 < uA) then (fN (mkS [44])).bind fun uE => (fq uB ([uE] : List eu)).bind fun uF => some uF else some uB : Option ((List eu))).bind fun uG => (gp uD).bind fun uH => (fq uG ([uH] : List eu)).bind fun uI => some (.inl uI) : Option (((List eu)) ⊕ (Empty))))) (s := L) (fun l s => s = L ++ wPa l) (fun _ => False) (by simp [wPa, aW]) (fun l x r s hx hI => .inl (by
  subst hI
  have hg:fW f.params (l.length:Int)=some x:=by rw [hx,iO]
  have hll:=(ap4 (l:=l) λs hs=>f3 s (by rw [hx];simp [hs])).2
  have hl3:l.length+r.length+1≤3:=by
   have:=congrArg List.length hx
   simp at this
   omega
  rw [ym]
  by_cases hl0:l=[]
  ·subst hl0
   have a1:fq (L++wPa []) [(⟨1,x⟩:eu)]=some (L++wPa []++[⟨1,x⟩]):=apK (by simp [wPa,aW];omega)
   refine ⟨_,fT hg (fT rfl (fT (nmK _) (fT a1 rfl))),?_⟩
   rw [if_pos rfl]
   simp [wPa,aW]
  ·have hd : decide (0 < (l.length : Int)) = true := by have := List.length_pos_iff.2 hl0; simp; omega
   have a1:fq (L++wPa l) [(⟨3,mkS [44]⟩:eu)]=some (L++wPa l++[cM]):=apK (by simp;omega)
   have a2:fq (L++wPa l++[cM]) [(⟨1,x⟩:eu)]=some (L++wPa l++[cM]++[⟨1,x⟩]):=apK (by simp;omega)
   rw [hd,if_pos rfl,if_neg hl0]
   refine ⟨_,fT hg (fT (fT (sgK _) (fT a1 rfl)) (fT (nmK _) (fT a2 rfl))),?_⟩
   simp)) with ⟨s,h3,h4⟩ | ⟨_,_,h4⟩
 ·subst h4
  refine fT h3 ?_
  rw [Sum.elim_inl]
  have a1:fq (L++wPa f.params) [(⟨3,mkS [41]⟩:eu)]=some (L++wPa f.params++[pR]):=apK (by simp;omega)
  have a2:=bh3 4 f.body f4 (L++wPa f.params++[pR]) (by simp;omega)
  refine fT (sgK _) (fT a1 (fT a2 ?_))
  rw [← hL]
  unfold wFn
  simp
 ·exact h4.elim
theorem zA {p:fZ} (hp:kY p=true) (hc:me p.fns≤150):jP p=some (yc (wFs p.fns)):=by
 have hpp:((p.fns.length:Int)≤4)∧∀ f∈p.fns,fnB f=true:=by
  have hp:=hp
  unfold kY at hp
  simp only [Bool.and_eq_true,List.all_eq_true] at hp
  exact ⟨(kQ.1 hp.1).2,hp.2.1⟩
 obtain ⟨hl4,hf⟩:=hpp
 have hv:=yC hf
 unfold jP
 rw [wZ,obS,hp]
 simp only [Bool.not_true,Bool.false_eq_true,if_false]
 rcases jI (xs := p.fns) (body := (fun (uD : Int) (uE : (List eu)) => ((fW p.fns uD).bind fun uA => (fg (mkS [102, 110])).bind fun uF => (gp uA.name).bind fun uG => (fN (mkS [40])).bind fun uH => (fq uE ([uF, uG, uH] : List eu)).bind fun uI => (forN (S := (List eu)) (X := Empty) (fun uB uC => (fW uA.params uB).bind fun uJ => (if decide (0 < uB) then (fN (mkS [44])).bind fun uK => (fq uC ([uK] : List eu)).bind fun uL => some uL else some uC : Option ((List eu))).bind fun uM => (gp uJ).bind fun uN => (fq uM ([uN] : List eu)).bind fun uO => some (.inl uO)) (((uA.params.length : Int) : Int) - 0).toNat 0 uI).bind (Sum.elim (fun uP => (fN (mkS [41])).bind fun uQ => (fq uP ([uQ] : List eu)).bind fun uR => (iJ uR uA.body).bind fun uS => some (.inl uS)) (fun (e0 : Empty) => nomatch e0)) : Option (((List eu)) ⊕ (Empty))))) (s := ([] : List eu)) (fun l s => s = wFs l) (fun _ => False) rfl (fun l f r s hx hI => .inl (by
  subst hI
  refine ⟨_,fnW (hf f (by rw [hx];simp)) (by rw [hx,iO]) ?_,?_⟩
  ·have h2:=hv.2
   rw [hx,vp,wFs,List.length_append,List.length_append] at h2
   rw [hx] at hc hl4
   simp only [List.length_append,List.length_cons] at hl4 h2
   omega
  ·rw [vp,wFs,wFs,List.append_nil])) with ⟨s,h1,h2⟩ | ⟨_,_,h2⟩
 ·subst h2
  refine fT h1 ?_
  rw [Sum.elim_inl]
  exact fT (av2 _ hv.1) rfl
 ·exact h2.elim
theorem yW {p:fZ} (hp:kY p=false):jP p=some (mkS [],false):=by
 unfold jP
 rw [wZ,obS,hp];rfl
end Prg
end Go.Wk
namespace Go.Wk
open Go
namespace Prg
set_option maxRecDepth 10000
theorem bk2:∀ (k:Nat) (acc:List Str) (ws:List eu),ws.length+1≤k→vW ws→acc.length+ws.length≤1000 →
      (∀ (r0:fF) (n:Nat),r0.list.length≤1000→vW r0.list→AtW r0.list n ws→match pP k acc ws with
        | some p=>∃ (m:Nat) (w:eu),AtW r0.list m (w::p.2)∧w.text=mkS [41]∧gG (λ(uA:Int × (List Str))=>((if decide (0≤uA.1) then (fy (⟨r0.list,uA.1⟩:fF) (mkS [41])).bind λuD=>some (!(uD)) else some false:Option (Bool)).bind λuB=>if uB then (if decide (0<((uA.2.length:Int))) then (fH (⟨r0.list,uA.1⟩:fF) (mkS [44])).bind λuE=>some uE.at_ else some uA.1:Option (Int)).bind λuF=>(ga (⟨r0.list,uF⟩:fF)).bind λuC=>(fq uA.2 ([uC.1]:List Str)).bind λuG=>some (.inl (uC.2.at_,uG)) else some (.inr (uA.1,uA.2)):Option ((Int × (List Str)) ⊕ (Int × (List Str))))) ((n:Int),acc)=some ((m:Int),p.1)
        | none=>∃ acc',gG (λ(uA:Int × (List Str))=>((if decide (0≤uA.1) then (fy (⟨r0.list,uA.1⟩:fF) (mkS [41])).bind λuD=>some (!(uD)) else some false:Option (Bool)).bind λuB=>if uB then (if decide (0<((uA.2.length:Int))) then (fH (⟨r0.list,uA.1⟩:fF) (mkS [44])).bind λuE=>some uE.at_ else some uA.1:Option (Int)).bind λuF=>(ga (⟨r0.list,uF⟩:fF)).bind λuC=>(fq uA.2 ([uC.1]:List Str)).bind λuG=>some (.inl (uC.2.at_,uG)) else some (.inr (uA.1,uA.2)):Option ((Int × (List Str)) ⊕ (Int × (List Str))))) ((n:Int),acc)=some (-1,acc')) ∧
      (match pP k acc ws with
        | some p=>gG (λ(uA:(List eu) × Bool × (List Str))=>((if !(uA.2.1) then (fJ (⟨uA.1,uA.2.1⟩:ez) 3 (mkS [41])).bind λuD=>some (uD.2.list,uD.2.bad,!(uD.1)) else some (uA.1,uA.2.1,false):Option ((List eu) × Bool × Bool)).bind λuB=>if uB.2.2 then (if decide (0<((uA.2.2.length:Int))) then (fC (⟨uB.1,uB.2.1⟩:ez) 3 (mkS [44])).bind λuE=>some (uE.list,uE.bad) else some (uB.1,uB.2.1):Option ((List eu) × Bool)).bind λuF=>(fa (⟨uF.1,uF.2⟩:ez)).bind λuC=>(fq uA.2.2 ([uC.1]:List Str)).bind λuG=>some (.inl (uC.2.list,uC.2.bad,uG)) else some (.inr (uB.1,uB.2.1,uA.2.2)):Option (((List eu) × Bool × (List Str)) ⊕ ((List eu) × Bool × (List Str))))) (ws,false,acc)=some (p.2,false,p.1)
        | none=>∃ acc' ws',gG (λ(uA:(List eu) × Bool × (List Str))=>((if !(uA.2.1) then (fJ (⟨uA.1,uA.2.1⟩:ez) 3 (mkS [41])).bind λuD=>some (uD.2.list,uD.2.bad,!(uD.1)) else some (uA.1,uA.2.1,false):Option ((List eu) × Bool × Bool)).bind λuB=>if uB.2.2 then (if decide (0<((uA.2.2.length:Int))) then (fC (⟨uB.1,uB.2.1⟩:ez) 3 (mkS [44])).bind λuE=>some (uE.list,uE.bad) else some (uB.1,uB.2.1):Option ((List eu) × Bool)).bind λuF=>(fa (⟨uF.1,uF.2⟩:ez)).bind λuC=>(fq uA.2.2 ([uC.1]:List Str)).bind λuG=>some (.inl (uC.2.list,uC.2.bad,uG)) else some (.inr (uB.1,uB.2.1,uA.2.2)):Option (((List eu) × Bool × (List Str)) ⊕ ((List eu) × Bool × (List Str))))) (ws,false,acc)=some (ws',true,acc')):=by
  intro k
  induction k with
  | zero=>intro acc ws h;omega
  | succ k ih =>
    intro acc ws hk hv hl
    have hlt:∀ x:Str,acc.length+[x].length≤2147483648:=λx=>by simp;omega
    have e2:decide (0<(acc.length:Int))=!decide (acc=[]):=by cases acc<;>simp
    have htk:=qM hv (t:=mkS [41]) rfl (by decide)
    rw [pP]
    refine ⟨λr0 n hll hvl ha=>?_,?_⟩
    · have e0 : decide (0 ≤ (n : Int)) = true := by simp
      by_cases ht:isT ws (mkS [41])=true
      · rw [if_pos ht]
        cases ws with
        | nil=>cases ht
        | cons w r =>
          refine ⟨n,w,ha,by simpa [isT] using ht,gH ?_⟩
          dsimp only
          rw [if_pos e0,sIs ha,ht];rfl
      · have ht : isT ws (mkS [41]) = false := by simpa using ht
        rw [if_neg (by simp [ht])]
        have hw:SpW r0.list (if acc=[] then some ws else wT (mkS [44]) ws) ((if decide (0<(acc.length:Int)) then (fH ⟨r0.list,(n:Int)⟩ (mkS [44])).bind λr=>some r.at_ else some (n:Int)).bind λa=>some ⟨r0.list,a⟩):=by
          rw [e2]
          by_cases h0:acc=[]
          · rw [if_pos h0,decide_eq_true h0]
            exact ⟨n,ha,rfl⟩
          · rw [if_neg h0,decide_eq_false h0]
            have h1:=qQ hll ha (mkS [44])
            cases hq:wT (mkS [44]) ws with
            | none =>
              rw [hq] at h1
              show _=_
              simp only [Bool.not_false,if_true]
              rw [show fH ⟨r0.list,(n:Int)⟩ (mkS [44])=some ⟨r0.list,-1⟩ from h1];rfl
            | some q =>
              rw [hq] at h1
              obtain ⟨m,a1,h1⟩:=h1
              refine ⟨m,a1,?_⟩
              simp only [Bool.not_false,if_true]
              rw [h1];rfl
        obtain ⟨z,hz⟩:∃ z:Int,(if decide (0<(acc.length:Int))=true then (fH ⟨r0.list,(n:Int)⟩ (mkS [44])).bind λr=>some r.at_ else some (n:Int))=some z:=by
          cases hx:(if decide (0<(acc.length:Int))=true then (fH ⟨r0.list,(n:Int)⟩ (mkS [44])).bind λr=>some r.at_ else some (n:Int)) with
          | some z=>exact ⟨z,rfl⟩
          | none =>
            rw [hx] at hw
            cases hy:(if acc=[] then some ws else wT (mkS [44]) ws) with
            | none=>rw [hy] at hw;cases hw
            | some q=>rw [hy] at hw;obtain ⟨m,_,h⟩:=hw;cases h
        rw [hz,obS] at hw
        have step:∀ (x:Str) (y:Int),ga ⟨r0.list,z⟩=some (x,⟨r0.list,y⟩)→gG (λ(uA:Int × (List Str))=>((if decide (0≤uA.1) then (fy (⟨r0.list,uA.1⟩:fF) (mkS [41])).bind λuD=>some (!(uD)) else some false:Option (Bool)).bind λuB=>if uB then (if decide (0<((uA.2.length:Int))) then (fH (⟨r0.list,uA.1⟩:fF) (mkS [44])).bind λuE=>some uE.at_ else some uA.1:Option (Int)).bind λuF=>(ga (⟨r0.list,uF⟩:fF)).bind λuC=>(fq uA.2 ([uC.1]:List Str)).bind λuG=>some (.inl (uC.2.at_,uG)) else some (.inr (uA.1,uA.2)):Option ((Int × (List Str)) ⊕ (Int × (List Str))))) ((n:Int),acc)=gG (λ(uA:Int × (List Str))=>((if decide (0≤uA.1) then (fy (⟨r0.list,uA.1⟩:fF) (mkS [41])).bind λuD=>some (!(uD)) else some false:Option (Bool)).bind λuB=>if uB then (if decide (0<((uA.2.length:Int))) then (fH (⟨r0.list,uA.1⟩:fF) (mkS [44])).bind λuE=>some uE.at_ else some uA.1:Option (Int)).bind λuF=>(ga (⟨r0.list,uF⟩:fF)).bind λuC=>(fq uA.2 ([uC.1]:List Str)).bind λuG=>some (.inl (uC.2.at_,uG)) else some (.inr (uA.1,uA.2)):Option ((Int × (List Str)) ⊕ (Int × (List Str))))) (y,acc++[x]):=by
          intro x y hn
          refine iz ?_
          dsimp only
          rw [if_pos e0,sIs ha,ht]
          simp only [obS,Bool.not_false,if_true]
          rw [hz,obS,hn,obS,jH (hlt x)];rfl
        cases hy:(if acc=[] then some ws else wT (mkS [44]) ws) with
        | none =>
          rw [hy] at hw
          have hz1:z=-1:=by
            have:=Option.some.inj hw
            exact congrArg fF.at_ this
          rw [Option.bind_none]
          refine ⟨acc++[mkS []],?_⟩
          rw [step (mkS []) (-1) (by rw [hz1];exact am4 _)]
          exact gH rfl
        | some q =>
          rw [hy] at hw
          obtain ⟨m,a1,hw⟩:=hw
          have hz1:z=(m:Int):=congrArg fF.at_ (Option.some.inj hw)
          have h2:=ad9 hll a1
          rw [obS]
          cases hn:nT q with
          | none =>
            rw [hn] at h2
            obtain ⟨x,h2⟩:=h2
            refine ⟨acc++[x],?_⟩
            rw [step x (-1) (by rw [hz1];exact h2)]
            exact gH rfl
          | some p =>
            obtain ⟨x,q2⟩:=p
            rw [hn] at h2
            obtain ⟨m2,a2,h2⟩:=h2
            have su:jo q2 ws:=by
              have s1:=oo hn
              split at hy
              · cases hy;exact s1
              · exact jo.trans s1.le (jT hy)
            have h3:=(ih (acc++[x]) q2 (by have:=su.1;omega) (su.le.vW hv) (by have:=su.1;simp;omega)).1 r0 m2 hll hvl a2
            rw [step x (m2:Int) (by rw [hz1];exact h2)]
            exact h3
    · by_cases ht:isT ws (mkS [41])=true
      · rw [if_pos ht]
        refine gH ?_
        dsimp only
        rw [if_pos (show (!false)=true from rfl),lY,htk,ht];rfl
      · have ht : isT ws (mkS [41]) = false := by simpa using ht
        rw [if_neg (by simp [ht])]
        have hw:ImW (if acc=[] then some ws else wT (mkS [44]) ws) ((if decide (0<(acc.length:Int)) then (fC ⟨ws,false⟩ 3 (mkS [44])).bind λr=>some (r.list,r.bad) else some (ws,false)).bind λa=>some ⟨a.1,a.2⟩):=by
          rw [e2]
          by_cases h0:acc=[]
          · rw [if_pos h0,decide_eq_true h0]
            rfl
          · rw [if_neg h0,decide_eq_false h0]
            have h1:=tx hv (t:=mkS [44]) rfl (by decide)
            simp only [Bool.not_false,if_true]
            cases hq:wT (mkS [44]) ws with
            | none =>
              rw [hq] at h1
              obtain ⟨ws',h1⟩:=h1
              exact ⟨ws',by rw [h1];rfl⟩
            | some q =>
              rw [hq] at h1
              show _=_
              rw [show fC ⟨ws,false⟩ 3 (mkS [44])=some ⟨q,false⟩ from h1];rfl
        obtain ⟨z,hz⟩:∃ z:List eu × Bool,(if decide (0<(acc.length:Int))=true then (fC ⟨ws,false⟩ 3 (mkS [44])).bind λr=>some (r.list,r.bad) else some (ws,false))=some z:=by
          cases hx:(if decide (0<(acc.length:Int))=true then (fC ⟨ws,false⟩ 3 (mkS [44])).bind λr=>some (r.list,r.bad) else some (ws,false)) with
          | some z=>exact ⟨z,rfl⟩
          | none =>
            rw [hx] at hw
            cases hy:(if acc=[] then some ws else wT (mkS [44]) ws) with
            | none=>rw [hy] at hw;obtain ⟨_,h⟩:=hw;cases h
            | some q=>rw [hy] at hw;cases hw
        rw [hz,obS] at hw
        have step:∀ (x:Str) (ws':List eu) (b:Bool),fa ⟨z.1,z.2⟩=some (x,⟨ws',b⟩)→gG (λ(uA:(List eu) × Bool × (List Str))=>((if !(uA.2.1) then (fJ (⟨uA.1,uA.2.1⟩:ez) 3 (mkS [41])).bind λuD=>some (uD.2.list,uD.2.bad,!(uD.1)) else some (uA.1,uA.2.1,false):Option ((List eu) × Bool × Bool)).bind λuB=>if uB.2.2 then (if decide (0<((uA.2.2.length:Int))) then (fC (⟨uB.1,uB.2.1⟩:ez) 3 (mkS [44])).bind λuE=>some (uE.list,uE.bad) else some (uB.1,uB.2.1):Option ((List eu) × Bool)).bind λuF=>(fa (⟨uF.1,uF.2⟩:ez)).bind λuC=>(fq uA.2.2 ([uC.1]:List Str)).bind λuG=>some (.inl (uC.2.list,uC.2.bad,uG)) else some (.inr (uB.1,uB.2.1,uA.2.2)):Option (((List eu) × Bool × (List Str)) ⊕ ((List eu) × Bool × (List Str))))) (ws,false,acc)=gG (λ(uA:(List eu) × Bool × (List Str))=>((if !(uA.2.1) then (fJ (⟨uA.1,uA.2.1⟩:ez) 3 (mkS [41])).bind λuD=>some (uD.2.list,uD.2.bad,!(uD.1)) else some (uA.1,uA.2.1,false):Option ((List eu) × Bool × Bool)).bind λuB=>if uB.2.2 then (if decide (0<((uA.2.2.length:Int))) then (fC (⟨uB.1,uB.2.1⟩:ez) 3 (mkS [44])).bind λuE=>some (uE.list,uE.bad) else some (uB.1,uB.2.1):Option ((List eu) × Bool)).bind λuF=>(fa (⟨uF.1,uF.2⟩:ez)).bind λuC=>(fq uA.2.2 ([uC.1]:List Str)).bind λuG=>some (.inl (uC.2.list,uC.2.bad,uG)) else some (.inr (uB.1,uB.2.1,uA.2.2)):Option (((List eu) × Bool × (List Str)) ⊕ ((List eu) × Bool × (List Str))))) (ws',b,acc++[x]):=by
          intro x ws' b hn
          refine iz ?_
          dsimp only
          rw [if_pos (show (!false)=true from rfl),lY,htk,ht]
          simp only [obS,Bool.not_false,if_true,Bool.false_eq_true,if_false]
          rw [hz,obS,hn,obS,jH (hlt x)];rfl
        cases hy:(if acc=[] then some ws else wT (mkS [44]) ws) with
        | none =>
          rw [hy] at hw
          obtain ⟨ws1,hw⟩:=hw
          obtain ⟨x,ws2,hn⟩:=an3 z.1
          have hz2:z.2=true:=by
            have:=Option.some.inj hw
            exact congrArg ez.bad this
          rw [Option.bind_none]
          refine ⟨acc++[x],ws2,?_⟩
          rw [step x ws2 true (by rw [hz2];exact hn)]
          exact gH rfl
        | some q =>
          rw [hy] at hw
          have hz1:z.1=q:=congrArg ez.list (Option.some.inj hw)
          have hz2:z.2=false:=congrArg ez.bad (Option.some.inj hw)
          have h2:=ak4 (ws:=q)
          rw [obS]
          cases hn:nT q with
          | none =>
            rw [hn] at h2
            obtain ⟨x,ws2,h2⟩:=h2
            refine ⟨acc++[x],ws2,?_⟩
            rw [step x ws2 true (by rw [hz1,hz2];exact h2)]
            exact gH rfl
          | some p =>
            obtain ⟨x,q2⟩:=p
            rw [hn] at h2
            have su:jo q2 ws:=by
              have s1:=oo hn
              split at hy
              · cases hy;exact s1
              · exact jo.trans s1.le (jT hy)
            have h3:=(ih (acc++[x]) q2 (by have:=su.1;omega) (su.le.vW hv) (by have:=su.1;simp;omega)).2
            rw [step x q2 false (by rw [hz1,hz2];exact h2)]
            exact h3
theorem an2 {k:Nat} {ws:List eu} (hk:2*ws.length+2≤k) (hv:vW ws) (hl:ws.length≤1000) {list:List eu} {n:Nat} (hll:list.length≤1000) (hvl:vW list) (ha:AtW list n ws):SpO list (pF k ws) (ij ⟨list,(n:Int)⟩):=by
 unfold ij pF
 have bad2:∀ (nm:Str) (ps:List Str),((fH ⟨list,-1⟩ (mkS [41])).bind λuC=>(fx ⟨list,uC.at_⟩).bind λuB=>some ((⟨nm,ps,uB.1⟩:Fn_),(⟨list,uB.2.at_⟩:fF)))=some (⟨nm,ps,[]⟩,⟨list,-1⟩):=by
  intro nm ps
  rw [mJ,obS,s9];rfl
 have bad1:∀ (nm:Str),(((gG (λ(uA:Int × (List Str))=>((if decide (0≤uA.1) then (fy (⟨(⟨list,n⟩:fF).list,uA.1⟩:fF) (mkS [41])).bind λuF=>some (!(uF)) else some false:Option (Bool)).bind λuG=>if uG then (if decide (0<((uA.2.length:Int))) then (fH (⟨(⟨list,n⟩:fF).list,uA.1⟩:fF) (mkS [44])).bind λuH=>some uH.at_ else some uA.1:Option (Int)).bind λuI=>(ga (⟨(⟨list,n⟩:fF).list,uI⟩:fF)).bind λuD=>(fq uA.2 ([uD.1]:List Str)).bind λuJ=>some (.inl (uD.2.at_,uJ)) else some (.inr (uA.1,uA.2)):Option ((Int × (List Str)) ⊕ (Int × (List Str))))) (-1,[])).bind λe0=>some e0).bind λuE=>(fH ⟨list,uE.1⟩ (mkS [41])).bind λuC=>(fx ⟨list,uC.at_⟩).bind λuB=>some ((⟨nm,uE.2,uB.1⟩:Fn_),(⟨list,uB.2.at_⟩:fF)))=some (⟨nm,[],[]⟩,⟨list,-1⟩):=by
  intro nm
  exact fT (fT (gH rfl) rfl) (bad2 nm [])
 have h1:=qQ hll ha (mkS [102,110])
 show SpO list ((wT (mkS [102,110]) ws).bind _) _
 cases hq1:wT (mkS [102,110]) ws with
 | none =>
  rw [hq1] at h1
  rw [show fH ⟨list,(n:Int)⟩ (mkS [102,110])=some ⟨list,-1⟩ from h1,obS]
  dsimp only
  rw [am4,obS]
  dsimp only
  rw [mJ]
  exact ⟨_,bad1 _⟩
 | some a =>
 rw [hq1] at h1
 obtain ⟨m1,a1,h1⟩:=h1
 have su1:=jT hq1
 rw [h1,obS,obS]
 dsimp only
 have h2:=ad9 hll a1
 cases hq2:nT a with
 | none =>
  rw [hq2] at h2
  obtain ⟨x,h2⟩:=h2
  rw [h2,obS]
  dsimp only
  rw [mJ]
  exact ⟨_,bad1 _⟩
 | some b =>
 obtain ⟨nm,b⟩:=b
 rw [hq2] at h2
 obtain ⟨m2,a2,h2⟩:=h2
 have su2:=oo hq2
 rw [h2,obS,obS]
 dsimp only at a2 ⊢
 have h3:=qQ hll a2 (mkS [40])
 cases hq3:wT (mkS [40]) b with
 | none =>
  rw [hq3] at h3
  rw [show fH ⟨list,(m2:Int)⟩ (mkS [40])=some ⟨list,-1⟩ from h3]
  exact ⟨_,bad1 _⟩
 | some c =>
 rw [hq3] at h3
 obtain ⟨m3,a3,h3⟩:=h3
 have su3:=jT hq3
 have sc:jo c ws:=jo.trans (su3.le.trans su2.le) su1
 rw [h3,obS,obS]
 dsimp only
 have h4:=(bk2 k [] c (by have:=sc.1;omega) (sc.le.vW hv) (by have:=sc.1;simp;omega)).1 ⟨list,(n:Int)⟩ m3 hll hvl a3
 cases hq4:pP k [] c with
 | none =>
  rw [hq4] at h4
  obtain ⟨acc',h4⟩:=h4
  exact ⟨_,fT (fT h4 rfl) (bad2 nm acc')⟩
 | some d =>
 obtain ⟨ps,d⟩:=d
 rw [hq4] at h4
 obtain ⟨m4,w,a4,hw,h4⟩:=h4
 have su4:=rj _ _ _ _ _ hq4
 have h5:=qQ hll a4 (mkS [41])
 have hw2:wT (mkS [41]) (w::d)=some d:=by simp [wT,isT,hw]
 rw [hw2] at h5
 obtain ⟨m5,a5,h5⟩:=h5
 have sd:jo d ws:=jo.trans su4.le sc
 have h6:=((sim k).1 d (by have:=sd.1;omega) (sd.le.vW hv) (by have:=sd.1;omega)).1 list m5 hll hvl a5
 rw [obS]
 dsimp only
 cases hq6:pK k d with
 | none =>
  rw [hq6] at h6
  obtain ⟨x,h6⟩:=h6
  refine ⟨⟨nm,ps,x⟩,fT (fT h4 rfl) ?_⟩
  dsimp only
  rw [h5,obS,h6];rfl
 | some q =>
  rw [hq6] at h6
  obtain ⟨m6,a6,h6⟩:=h6
  refine ⟨m6,a6,fT (fT h4 rfl) ?_⟩
  dsimp only
  rw [h5,obS,h6];rfl
theorem an0 {k:Nat} {ws:List eu} (hk:2*ws.length+2≤k) (hv:vW ws) (hl:ws.length≤1000):ImO (pF k ws) (iN ⟨ws,false⟩):=by
 unfold iN pF
 have bad2:∀ (nm:Str) (ps:List Str) (ws1:List eu),∃ ws2,((fc ⟨ws1,true⟩).bind λuC=>some ((⟨nm,ps,uC.1⟩:Fn_),uC.2))=some (⟨nm,ps,[]⟩,⟨ws2,true⟩):=by
  intro nm ps ws1
  obtain ⟨ws2,h⟩:=pH ws1
  exact ⟨ws2,by rw [h];rfl⟩
 have bad1:∀ (nm:Str) (ws1:List eu),∃ x ws2,((fC ⟨ws1,true⟩ 3 (mkS [40])).bind λuG=>((gG (λ(uA:(List eu) × Bool × (List Str))=>((if !(uA.2.1) then (fJ (⟨uA.1,uA.2.1⟩:ez) 3 (mkS [41])).bind λuD=>some (uD.2.list,uD.2.bad,!(uD.1)) else some (uA.1,uA.2.1,false):Option ((List eu) × Bool × Bool)).bind λuB=>if uB.2.2 then (if decide (0<((uA.2.2.length:Int))) then (fC (⟨uB.1,uB.2.1⟩:ez) 3 (mkS [44])).bind λuH=>some (uH.list,uH.bad) else some (uB.1,uB.2.1):Option ((List eu) × Bool)).bind λuI=>(fa (⟨uI.1,uI.2⟩:ez)).bind λuE=>(fq uA.2.2 ([uE.1]:List Str)).bind λuJ=>some (.inl (uE.2.list,uE.2.bad,uJ)) else some (.inr (uB.1,uB.2.1,uA.2.2)):Option (((List eu) × Bool × (List Str)) ⊕ ((List eu) × Bool × (List Str))))) (uG.list,uG.bad,[])).bind λe0=>some e0).bind λuF=>(fc ⟨uF.1,uF.2.1⟩).bind λuC=>some ((⟨nm,uF.2.2,uC.1⟩:Fn_),uC.2))=some (x,⟨ws2,true⟩):=by
  intro nm ws1
  obtain ⟨ws3,h3⟩:=ot ws1 3 (mkS [40])
  obtain ⟨ws4,h4⟩:=bad2 nm [] ws3
  exact ⟨_,ws4,by rw [h3,obS];exact fT (fT (gH rfl) rfl) h4⟩
 have h1:=ar2 (ap3 hv (t:=mkS [102,110]) (by decide))
 show ImO ((wT (mkS [102,110]) ws).bind _) _
 cases hq1:wT (mkS [102,110]) ws with
 | none =>
  rw [hq1] at h1
  obtain ⟨ws1,h1⟩:=h1
  obtain ⟨x,ws2,h2⟩:=an3 ws1
  obtain ⟨y,ws3,h3⟩:=bad1 x ws2
  rw [h1,obS,h2,obS]
  exact ⟨_,_,h3⟩
 | some a =>
 rw [hq1] at h1
 have su1:=jT hq1
 rw [show fC ⟨ws,false⟩ 4 (mkS [102,110])=some ⟨a,false⟩ from h1,obS,obS]
 have h2:=ak4 (ws:=a)
 cases hq2:nT a with
 | none =>
  rw [hq2] at h2
  obtain ⟨x,ws2,h2⟩:=h2
  obtain ⟨y,ws3,h3⟩:=bad1 x ws2
  rw [h2,obS]
  exact ⟨_,_,h3⟩
 | some b =>
 obtain ⟨nm,b⟩:=b
 rw [hq2] at h2
 have su2:=oo hq2
 have hvb:=(su2.le.trans su1.le).vW hv
 rw [show fa ⟨a,false⟩=some (nm,⟨b,false⟩) from h2,obS,obS]
 dsimp only
 have h3:=tx hvb (t:=mkS [40]) rfl (by decide)
 cases hq3:wT (mkS [40]) b with
 | none =>
  rw [hq3] at h3
  obtain ⟨ws3,h3⟩:=h3
  obtain ⟨ws4,h4⟩:=bad2 nm [] ws3
  rw [h3,obS]
  exact ⟨_,ws4,fT (fT (gH rfl) rfl) h4⟩
 | some c =>
 rw [hq3] at h3
 have su3:=jT hq3
 have sc:jo c ws:=jo.trans (su3.le.trans su2.le) su1
 rw [show fC ⟨b,false⟩ 3 (mkS [40])=some ⟨c,false⟩ from h3,obS,obS]
 dsimp only
 have h4:=(bk2 k [] c (by have:=sc.1;omega) (sc.le.vW hv) (by have:=sc.1;simp;omega)).2
 cases hq4:pP k [] c with
 | none =>
  rw [hq4] at h4
  obtain ⟨acc',ws4,h4⟩:=h4
  obtain ⟨ws5,h5⟩:=bad2 nm acc' ws4
  exact ⟨_,ws5,fT (fT h4 rfl) h5⟩
 | some d =>
 obtain ⟨ps,d⟩:=d
 rw [hq4] at h4
 have su4:=rj _ _ _ _ _ hq4
 have sd:jo d ws:=jo.trans su4.le sc
 have h6:=((sim k).1 d (by have:=sd.1;omega) (sd.le.vW hv) (by have:=sd.1;omega)).2
 unfold OkI at h6
 rw [obS]
 dsimp only
 cases hq6:pK k d with
 | none =>
  rw [hq6] at h6
  obtain ⟨x,ws6,h6⟩:=h6
  refine ⟨⟨nm,ps,x⟩,ws6,fT (fT h4 rfl) ?_⟩
  dsimp only
  rw [h6];rfl
 | some q =>
  rw [hq6] at h6
  refine fT (fT h4 rfl) ?_
  dsimp only
  rw [show fc ⟨d,false⟩=some (q.1,⟨q.2,false⟩) from h6];rfl
theorem bn3 {k0:Nat}:∀ (k:Nat) (acc:List Fn_) (ws:List eu),ws.length+1≤k→2*ws.length+2≤k0→vW ws→acc.length+ws.length≤1000 →
      (∀ (list:List eu) (n:Nat),list.length≤1000→vW list→AtW list n ws→match pG k0 k acc ws with
        | some p=>gG (λ(uA:Int × (List Fn_))=>((if decide (0≤uA.1) then some (decide (uA.1<(((list,true).1.length:Int)))) else some false:Option (Bool)).bind λuC=>if uC then (ij (⟨(list,true).1,uA.1⟩:fF)).bind λuB=>(fq uA.2 ([uB.1]:List Fn_)).bind λuD=>some (.inl (uB.2.at_,uD)) else some (.inr (uA.1,uA.2)):Option ((Int × (List Fn_)) ⊕ (Int × (List Fn_))))) ((n:Int),acc)=some ((list.length:Int),p)
        | none=>∃ acc',gG (λ(uA:Int × (List Fn_))=>((if decide (0≤uA.1) then some (decide (uA.1<(((list,true).1.length:Int)))) else some false:Option (Bool)).bind λuC=>if uC then (ij (⟨(list,true).1,uA.1⟩:fF)).bind λuB=>(fq uA.2 ([uB.1]:List Fn_)).bind λuD=>some (.inl (uB.2.at_,uD)) else some (.inr (uA.1,uA.2)):Option ((Int × (List Fn_)) ⊕ (Int × (List Fn_))))) ((n:Int),acc)=some (-1,acc')) ∧
      (match pG k0 k acc ws with
        | some p=>gG (λ(uA:(List eu) × Bool × (List Fn_))=>((if !(uA.2.1) then some (decide (0<((uA.1.length:Int)))) else some false:Option (Bool)).bind λuC=>if uC then (iN (⟨uA.1,uA.2.1⟩:ez)).bind λuB=>(fq uA.2.2 ([uB.1]:List Fn_)).bind λuD=>some (.inl (uB.2.list,uB.2.bad,uD)) else some (.inr (uA.1,uA.2.1,uA.2.2)):Option (((List eu) × Bool × (List Fn_)) ⊕ ((List eu) × Bool × (List Fn_))))) (ws,false,acc)=some ([],false,p)
        | none=>∃ acc' ws',gG (λ(uA:(List eu) × Bool × (List Fn_))=>((if !(uA.2.1) then some (decide (0<((uA.1.length:Int)))) else some false:Option (Bool)).bind λuC=>if uC then (iN (⟨uA.1,uA.2.1⟩:ez)).bind λuB=>(fq uA.2.2 ([uB.1]:List Fn_)).bind λuD=>some (.inl (uB.2.list,uB.2.bad,uD)) else some (.inr (uA.1,uA.2.1,uA.2.2)):Option (((List eu) × Bool × (List Fn_)) ⊕ ((List eu) × Bool × (List Fn_))))) (ws,false,acc)=some (ws',true,acc')):=by
  intro k
  induction k with
  | zero=>intro acc ws h;omega
  | succ k ih =>
    intro acc ws hk hk0 hv hl
    have hlt:∀ x:Fn_,acc.length+[x].length≤2147483648:=λx=>by simp;omega
    rw [pG]
    by_cases h0:ws=[]
    · subst h0
      rw [if_pos rfl]
      refine ⟨λlist n hll hvl ha=>?_,gH rfl⟩
      have:=xZ ha
      refine gH ?_
      have e0:decide (0≤(n:Int))=true:=by simp
      have e1:decide ((n:Int)<(list.length:Int))=false:=by simp;omega
      dsimp only
      rw [if_pos e0,obS,e1,this];rfl
    · rw [if_neg h0]
      have hpos:=List.length_pos_iff.2 h0
      refine ⟨λlist n hll hvl ha=>?_,?_⟩
      · have hlt2:n<list.length:=by
          cases ws with
          | nil=>exact absurd rfl h0
          | cons w r=>exact (jK ha).1
        have e0:decide (0≤(n:Int))=true:=by simp
        have e1:decide ((n:Int)<(list.length:Int))=true:=by simp;omega
        have h1:=an2 hk0 hv (by omega) hll hvl ha
        have step:∀ (x:Fn_) (y:Int),ij ⟨list,(n:Int)⟩=some (x,⟨list,y⟩)→gG (λ(uA:Int × (List Fn_))=>((if decide (0≤uA.1) then some (decide (uA.1<(((list,true).1.length:Int)))) else some false:Option (Bool)).bind λuC=>if uC then (ij (⟨(list,true).1,uA.1⟩:fF)).bind λuB=>(fq uA.2 ([uB.1]:List Fn_)).bind λuD=>some (.inl (uB.2.at_,uD)) else some (.inr (uA.1,uA.2)):Option ((Int × (List Fn_)) ⊕ (Int × (List Fn_))))) ((n:Int),acc)=gG (λ(uA:Int × (List Fn_))=>((if decide (0≤uA.1) then some (decide (uA.1<(((list,true).1.length:Int)))) else some false:Option (Bool)).bind λuC=>if uC then (ij (⟨(list,true).1,uA.1⟩:fF)).bind λuB=>(fq uA.2 ([uB.1]:List Fn_)).bind λuD=>some (.inl (uB.2.at_,uD)) else some (.inr (uA.1,uA.2)):Option ((Int × (List Fn_)) ⊕ (Int × (List Fn_))))) (y,acc++[x]):=by
          intro x y hn
          refine iz ?_
          dsimp only
          rw [if_pos e0,obS,e1,if_pos rfl,hn,obS,jH (hlt x)];rfl
        cases hq:pF k0 ws with
        | none =>
          rw [hq] at h1
          obtain ⟨x,h1⟩:=h1
          refine ⟨acc++[x],?_⟩
          rw [step x (-1) h1]
          exact gH rfl
        | some p =>
          obtain ⟨f,q⟩:=p
          rw [hq] at h1
          obtain ⟨m,a1,h1⟩:=h1
          have su:=xa hq
          have h2:=(ih (acc++[f]) q (by have:=su.1;omega) (by have:=su.1;omega) (su.le.vW hv) (by have:=su.1;simp;omega)).1 list m hll hvl a1
          rw [step f (m:Int) h1,obS]
          exact h2
      · have e1 : decide (0 < (ws.length : Int)) = true := by simp; omega
        have h1:=an0 hk0 hv (by omega)
        have step:∀ (x:Fn_) (ws':List eu) (b:Bool),iN ⟨ws,false⟩=some (x,⟨ws',b⟩)→gG (λ(uA:(List eu) × Bool × (List Fn_))=>((if !(uA.2.1) then some (decide (0<((uA.1.length:Int)))) else some false:Option (Bool)).bind λuC=>if uC then (iN (⟨uA.1,uA.2.1⟩:ez)).bind λuB=>(fq uA.2.2 ([uB.1]:List Fn_)).bind λuD=>some (.inl (uB.2.list,uB.2.bad,uD)) else some (.inr (uA.1,uA.2.1,uA.2.2)):Option (((List eu) × Bool × (List Fn_)) ⊕ ((List eu) × Bool × (List Fn_))))) (ws,false,acc)=gG (λ(uA:(List eu) × Bool × (List Fn_))=>((if !(uA.2.1) then some (decide (0<((uA.1.length:Int)))) else some false:Option (Bool)).bind λuC=>if uC then (iN (⟨uA.1,uA.2.1⟩:ez)).bind λuB=>(fq uA.2.2 ([uB.1]:List Fn_)).bind λuD=>some (.inl (uB.2.list,uB.2.bad,uD)) else some (.inr (uA.1,uA.2.1,uA.2.2)):Option (((List eu) × Bool × (List Fn_)) ⊕ ((List eu) × Bool × (List Fn_))))) (ws',b,acc++[x]):=by
          intro x ws' b hn
          refine iz ?_
          dsimp only
          rw [if_pos (show (!false)=true from rfl),obS,e1,if_pos rfl,hn,obS,jH (hlt x)];rfl
        cases hq:pF k0 ws with
        | none =>
          rw [hq] at h1
          obtain ⟨x,ws',h1⟩:=h1
          refine ⟨acc++[x],ws',?_⟩
          rw [step x ws' true h1]
          exact gH rfl
        | some p =>
          obtain ⟨f,q⟩:=p
          rw [hq] at h1
          have su:=xa hq
          have h2:=(ih (acc++[f]) q (by have:=su.1;omega) (by have:=su.1;omega) (su.le.vW hv) (by have:=su.1;simp;omega)).2
          rw [step f q false h1,obS]
          exact h2
end Prg
end Go.Wk
namespace Go.Wk
open Go
namespace Prg
set_option maxRecDepth 10000
section
variable {α:Type}
end
def szE (e:ey):Nat:=3*iW e
end Prg
end Go.Wk
namespace Go.Wk
open Go
namespace Prg
set_option maxRecDepth 10000
def noP:fZ:=⟨[]⟩
noncomputable def rdG (ws:List eu):Option (List Fn_):=pG 2000 1001 [] ws
theorem wV {s:Str} {ws:List eu} (h:rX s=some ws):(match rdG ws with
  | some fns=>iP s=some (if kY ⟨fns⟩ then (⟨fns⟩,true) else (noP,false))∧gu s=some (if kY ⟨fns⟩ then (⟨fns⟩,true) else (noP,false))
  | none=>iP s=some (noP,false)∧gu s=some (noP,false)):=by
 obtain ⟨hv,hl⟩:=rf h
 obtain ⟨h1,h2⟩:=bn3 (k0:=2000) 1001 [] ws (by omega) (by omega) hv (by simp;omega)
 replace h1:=h1 ws 0 (by omega) hv (az9 ws)
 unfold rdG
 cases hq:pG 2000 1001 [] ws with
 | some fns =>
  rw [hq] at h1 h2
  constructor
  ·unfold iP
   rw [qJ,oX h,obS]
   dsimp only
   rw [if_neg (by simp)]
   refine fT (fT h1 rfl) ?_
   have e1:decide ((ws.length:Int)<0)=false:=by simp
   dsimp only
   rw [e1,if_neg (by simp),yr]
   cases kY ⟨fns⟩<;>rfl
  ·unfold gu
   rw [nz,oX h,obS]
   refine fT (fT h2 rfl) ?_
   dsimp only
   rw [if_neg (by simp),wZ]
   cases kY ⟨fns⟩<;>rfl
 | none =>
  rw [hq] at h1 h2
  obtain ⟨acc1,h1⟩:=h1
  obtain ⟨acc2,ws2,h2⟩:=h2
  constructor
  ·unfold iP
   rw [qJ,oX h,obS]
   dsimp only
   rw [if_neg (by simp)]
   exact fT (fT h1 rfl) rfl
  ·unfold gu
   rw [nz,oX h,obS]
   exact fT (fT h2 rfl) rfl
theorem w9 {s:Str} (h:rX s=none):iP s=some (noP,false)∧gu s=some (noP,false):=by
 constructor
 ·unfold iP
  rw [qJ,xU h];rfl
 ·unfold gu
  rw [nz,xU h,obS]
  exact fT (fT (gH rfl) rfl) rfl
theorem oa (s:Str):∃ p ok,iP s=some (p,ok)∧gu s=some (p,ok)∧((ok=true∧kY p=true∧∃ ws,rX s=some ws∧rdG ws=some p.fns)∨(ok=false∧p=noP)):=by
 cases h:rX s with
 | none=>exact ⟨_,_,(w9 h).1,(w9 h).2,.inr ⟨rfl,rfl⟩⟩
 | some ws =>
  have h1:=wV h
  cases hq:rdG ws with
  | none =>
   rw [hq] at h1
   exact ⟨_,_,h1.1,h1.2,.inr ⟨rfl,rfl⟩⟩
  | some fns =>
   rw [hq] at h1
   dsimp only at h1
   cases hp:kY ⟨fns⟩ with
   | true =>
    rw [hp] at h1
    exact ⟨_,_,h1.1,h1.2,.inl ⟨rfl,hp,ws,rfl,hq⟩⟩
   | false =>
    rw [hp] at h1
    exact ⟨_,_,h1.1,h1.2,.inr ⟨rfl,rfl⟩⟩
theorem au3:∀ k:Nat,(∀ ws s r,pS k ws=some (s,r)→zz s+r.length≤ws.length)∧(∀ ws b r,pK k ws=some (b,r)→kV b+r.length≤ws.length)∧(∀ acc ws b r,pB k acc ws=some (b,r)→kV b+r.length≤kV acc+ws.length):=by
 intro k
 induction k with
 | zero=>exact ⟨λws s r h=>(by rw [pS] at h;cases h),λws s r h=>(by rw [pK] at h;cases h),λacc ws s r h=>(by rw [pB] at h;cases h)⟩
 | succ k ih =>
  obtain ⟨i1,i2,i3⟩:=ih
  refine ⟨λws s r h=>?_,λws b r h=>?_,λacc ws b r h=>?_⟩
  ·rw [pS] at h
   obtain ⟨⟨op,nm,q⟩,h1,h⟩:=Option.bind_eq_some_iff.1 h
   obtain ⟨⟨e,q2⟩,h2,h⟩:=Option.bind_eq_some_iff.1 h
   have s1:=(tD h1).1
   have s2:=(qn h2).1
   dsimp only at h s2
   split at h
   ·obtain ⟨q3,h3,h⟩:=Option.bind_eq_some_iff.1 h
    obtain ⟨⟨e2,q4⟩,h4,h⟩:=Option.bind_eq_some_iff.1 h
    obtain ⟨q5,h5,h⟩:=Option.map_eq_some_iff.1 h
    cases h
    have s3:=(jT h3).1
    have s4:=(qn h4).1
    have s5:=(jT h5).1
    rw [l8]
    dsimp only at s5 ⊢
    rw [jF]
    omega
   ·split at h
    ·obtain ⟨⟨b,q3⟩,h3,h⟩:=Option.bind_eq_some_iff.1 h
     have c3:=i2 _ _ _ h3
     dsimp only at h
     split at h
     ·obtain ⟨⟨c,q4⟩,h4,h⟩:=Option.map_eq_some_iff.1 h
      have c4:=i2 _ _ _ h4
      rw [List.length_tail] at c4
      cases h
      rw [l8]
      dsimp only
      omega
     ·cases h
      rw [l8]
      dsimp only
      rw [jF]
      omega
    ·split at h
     ·obtain ⟨⟨b,q3⟩,h3,h⟩:=Option.map_eq_some_iff.1 h
      have c3:=i2 _ _ _ h3
      cases h
      rw [l8]
      dsimp only
      rw [jF]
      omega
     ·obtain ⟨q3,h3,h⟩:=Option.map_eq_some_iff.1 h
      have s3:=(jT h3).1
      cases h
      rw [l8]
      dsimp only
      rw [jF]
      omega
  ·rw [pK] at h
   obtain ⟨q,h1,h⟩:=Option.bind_eq_some_iff.1 h
   have s1:=(jT h1).1
   have c1:=i3 _ _ _ _ h
   rw [jF] at c1
   omega
  ·rw [pB] at h
   split at h
   ·cases h
    rw [List.length_tail]
    omega
   ·obtain ⟨⟨s,q⟩,h1,h⟩:=Option.bind_eq_some_iff.1 h
    have c1:=i1 _ _ _ h1
    have c2:=i3 _ _ _ _ h
    rw [oG,kS,jF] at c2
    dsimp only at c2
    omega
theorem bf9 {k:Nat} {ws r:List eu} {f:Fn_} (h:pF k ws=some (f,r)):kV f.body+r.length≤ws.length:=by
 unfold pF at h
 obtain ⟨a,h1,h⟩:=Option.bind_eq_some_iff.1 h
 obtain ⟨⟨n,b⟩,h2,h⟩:=Option.bind_eq_some_iff.1 h
 obtain ⟨c,h3,h⟩:=Option.bind_eq_some_iff.1 h
 obtain ⟨⟨ps,d⟩,h4,h⟩:=Option.bind_eq_some_iff.1 h
 obtain ⟨⟨q,r'⟩,h5,h⟩:=Option.map_eq_some_iff.1 h
 cases h
 have s1:=(jT h1).1
 have s2:=(oo h2).1
 have s3:=(jT h3).1
 have s4:=(rj _ _ _ _ _ h4).1
 have s5:=(au3 k).2.1 _ _ _ h5
 dsimp only at *
 omega
theorem am3 {k0:Nat}:∀ (k:Nat) (acc:List Fn_) (ws:List eu) (fns:List Fn_),pG k0 k acc ws=some fns→me fns≤me acc+ws.length
 | 0,acc,ws,fns,h=>by rw [pG] at h;cases h
 | k+1,acc,ws,fns,h=>by
  rw [pG] at h
  split at h
  ·cases h;omega
  ·obtain ⟨⟨f,q⟩,h1,h⟩:=Option.bind_eq_some_iff.1 h
   have c1:=bf9 h1
   have c2:=am3 k _ _ _ h
   rw [o9] at c2
   simp only [me] at c2
   omega
theorem zD {ws:List eu} {p:fZ} (hl:ws.length≤1000) (h:rdG ws=some p.fns) (hp:kY p=true):me p.fns≤40:=by
 have h1:=am3 1001 [] ws p.fns h
 unfold kY at hp
 simp only [Bool.and_eq_true,decide_eq_true_iff] at hp
 have h2:=hp.2.2
 simp only [me] at h1
 rw [hO (by omega) (by omega)] at h2
 omega
end Prg
end Go.Wk
namespace Go.Wk
open Go
namespace Prg
set_option maxRecDepth 10000
def bo8 (l:List fB):Prop:=∀ k acc r,2*(wSL l).length+1≤k→vW r→(wSL l).length+r.length+1≤1000→pB k acc (wSL l++cB::r)=some (acc++l,r)
end Prg
end Go.Wk
namespace Go.Wk
open Go
namespace Prg
set_option maxRecDepth 10000
end Prg
end Go.Wk
namespace Go.Wk
open Go
namespace Prg
set_option maxRecDepth 10000
theorem nd {α X:Type} {xs:List α} {body:Int→Unit→Option (Unit ⊕ X)} (h:∀ x∈xs,∀ i,fW xs i=some x→body i ()=some (.inl ())):forN body ((xs.length:Int) - 0).toNat 0 ()=some (.inl ()):=by
 rcases jI (xs:=xs) (body:=body) (s:=()) (λ_ _=>True) (λ_=>False) trivial (λl x r s hx _=>.inl ⟨(),h x (by rw [hx];simp) _ (by rw [hx,iO]),trivial⟩) with ⟨s,h1,_⟩ | ⟨_,_,h2⟩
 ·exact h1
 ·exact h2.elim
theorem zj (l:List Str):nO l l=some true:=by
 unfold nO
 rw [if_neg (by simp)]
 refine fT (nd λx hx i hi=>?_) rfl
 exact fT hi (fT hi (by rw [if_neg (by simp)]))
theorem zn:∀ l:List fB,(∀ d,(∀ s∈l,kL d s=true)→kC l l=some true):=by
 intro l
 induction l using qq with
 | h l ih =>
  intro d hd
  rw [kC,if_neg (by simp)]
  refine fT (nd λs hs i hi=>?_) rfl
  obtain ⟨d,rfl⟩:∃ d',d=d'+1:=by
   cases d with
   | zero=>have:=hd s hs;rw [kL] at this;cases this
   | succ d=>exact ⟨d,rfl⟩
  have hf:=hd s hs
  rw [kL] at hf
  simp only [Bool.and_eq_true,List.all_eq_true] at hf
  have hal:s.args.length≤2:=by
   have h1:=hf.1
   unfold hdB at h1
   simp only [Bool.and_eq_true,decide_eq_true_iff] at h1
   have:=h1.2.1
   unfold rN at this
   split at this<;>omega
  refine fT (a:=false) (fT hi (fT hi (by simp))) ?_
  rw [if_neg Bool.false_ne_true]
  have hloop:gG (λ(uA:Int)=>((fW l i).bind λuB=>if decide (uA<((uB.args.length:Int))) then (fW l i).bind λuC=>(fW uB.args uA).bind λuD=>(fW uC.args uA).bind λuE=>(jt uD uE).bind λuF=>if !(uF) then some (.inr (.inl false)) else some (.inl (w64 (uA+1))) else some (.inr (.inr ())):Option ((Int) ⊕ (Bool ⊕ Unit)))) 0=some (.inr ()):=by
   obtain ⟨z,z1,z2⟩:=ah7 (b1:=(λ(uA:Int)=>((fW l i).bind λuB=>if decide (uA<((uB.args.length:Int))) then (fW l i).bind λuC=>(fW uB.args uA).bind λuD=>(fW uC.args uA).bind λuE=>(jt uD uE).bind λuF=>if !(uF) then some (.inr (.inl false)) else some (.inl (w64 (uA+1))) else some (.inr (.inr ())):Option ((Int) ⊕ (Bool ⊕ Unit))))) (λj:Int=>0≤j∧j≤(s.args.length:Int)) (λx=>x=.inr ()) (λj=>(s.args.length - j).toNat) (λj hj=>by
    by_cases hc:j<(s.args.length:Int)
    ·have e1:decide (j<(s.args.length:Int))=true:=decide_eq_true hc
     obtain ⟨a,ha⟩:∃ a,fW s.args j=some a:=⟨_,xf hj.1 hc⟩
     refine .inl ⟨j+1,?_,⟨by omega,by omega⟩,by omega⟩
     rw [hi]
     simp only [obS,e1,if_true,ha,bd7,Bool.not_true,Bool.false_eq_true,if_false]
     rw [hO (by omega) (by omega)]
    ·have e1:decide (j<(s.args.length:Int))=false:=decide_eq_false hc
     refine .inr ⟨_,?_,rfl⟩
     rw [hi]
     simp only [obS,e1,Bool.false_eq_true,if_false]) 4 0 ⟨by omega,by omega⟩ (by omega)
   rw [z1,z2]
  refine fT (fT hloop rfl) ?_
  obtain ⟨g1,g2⟩:=ih s hs
  rw [Sum.elim_inl]
  refine fT (a:=false) (fT hi (fT hi (fT (g1 d hf.2.1) ?_))) ?_
  ·rw [if_neg (by simp)]
   exact fT (g2 d hf.2.2) rfl
  ·rfl
theorem wc {p:fZ} (h:kY p=true):gk p p=some true:=by
 unfold kY at h
 simp only [Bool.and_eq_true,List.all_eq_true] at h
 have hf:=h.2.1
 unfold gk
 rw [if_neg (by simp)]
 refine fT (nd λf hfm i hi=>?_) rfl
 have hff:=hf f hfm
 unfold fnB at hff
 simp only [Bool.and_eq_true,decide_eq_true_iff,List.all_eq_true] at hff
 refine fT (a:=false) (fT hi (fT hi ?_)) ?_
 ·rw [if_neg (by simp)]
  refine fT (zj f.params) ?_
  rw [if_neg (by simp)]
  exact fT (zn _ 4 hff.2.2.2) rfl
 ·rfl
theorem yY (l:List ey):fM l l (λy0 y1=>jM y0 y1)=some true:=by
 unfold fM
 rw [if_neg (by simp)]
 refine fT (nd λx hx i hi=>?_) rfl
 exact fT hi (fT hi (fT (bi8 x) rfl))
theorem y6:∀ l:List fB,fQ l l (λy0 y1=>jq y0 y1)=some true:=by
 intro l
 induction l using qq with
 | h l ih =>
  unfold fQ
  rw [if_neg (by simp)]
  refine fT (nd λs hs i hi=>?_) rfl
  obtain ⟨g1,g2⟩:=ih s hs
  refine fT hi (fT hi (fT (a:=true) ?_ rfl))
  show jq s s=some true
  rw [jq]
  refine fT (a:=true) ?_ rfl
  rw [if_pos (by simp),if_pos (by simp)]
  refine fT (yY _) ?_
  rw [if_pos rfl]
  refine fT g1 ?_
  rw [if_pos rfl]
  exact fT g2 rfl
theorem zT (p:fZ):kP p p=some true:=by
 unfold kP gw
 rw [if_neg (by simp)]
 refine fT (fT (nd λf hf i hi=>?_) rfl) rfl
 refine fT hi (fT hi (fT (a:=true) ?_ rfl))
 unfold kX
 refine fT (a:=true) ?_ rfl
 rw [if_pos (by simp)]
 refine fT (a:=true) ?_ ?_
 ·unfold jh
  rw [if_neg (by simp)]
  refine fT (nd λx hx j hj=>?_) rfl
  exact fT hj (fT hj (by rw [if_neg (by simp)]))
 ·rw [if_pos rfl]
  exact fT (y6 _) rfl
end Prg
end Go.Wk
namespace Go.Wk
open Go
namespace Prg
set_option maxRecDepth 10000
theorem qw {p:fZ} (hp:kY p=true):1≤p.fns.length∧p.fns.length≤4∧∀ f∈p.fns,fnB f=true:=by
 unfold kY at hp
 simp only [Bool.and_eq_true,List.all_eq_true] at hp
 have:=kQ.1 hp.1
 exact ⟨by omega,by omega,hp.2.1⟩
theorem be2 {s:Str} {lo hi:Int} (h0:0≤lo) (h1:lo≤hi) (h2:hi≤(s.b.length:Int)):∃ t,ox s lo hi=some t∧(t.b.length:Int)≤hi - lo:=by
 refine ⟨_,ky.2 ⟨⟨h0,h1,h2⟩,rfl⟩,?_⟩
 unfold Str.sub
 dsimp only
 simp only [List.length_drop,List.length_take]
 omega
theorem tu (code:List UInt8):∃ s,ia code=some s:=by
 obtain ⟨b,h1,hb⟩:=az0 code
 have key:Dr (ia code) (λ_=>True):=by
  unfold ia
  rw [h1,obS]
  refine DrA.bind (aw4 hb) λp q g1 g2 g3=>?_
  obtain ⟨g3,g4⟩:=g3
  dsimp only
  obtain ⟨T,t1,t2⟩:=ag4 g3 (by omega)
  rw [t1,obS]
  have hT:T.b.length≤90000:=by
   have hv:=yC (qw g3).2.2
   have:=pq _ hv.1
   have:=(qw g3).2.1
   rw [t2];omega
  refine pk hb (by omega) (by omega) λv v0 v1=>?_
  have v1:=v1 (by omega)
  dsimp only
  refine pk hb (by omega) (by omega) λu _ _=>?_
  dsimp only
  refine Dr.ite (λ_=>?_) λ_=>?_
  ·obtain ⟨x, x1, x2⟩ := be2 (s := T) (lo := 0) (hi := v) (by omega) (by omega) (by omega)
   obtain ⟨y,y1,y2⟩:=be2 (s:=T) (lo:=v) (hi:=(T.b.length:Int)) (by omega) (by omega) (by omega)
   rw [x1,obS,y1,obS]
   refine ofx hb (by decide) (by omega) (by omega) λz hz=>?_
   have hz2:z.b.length≤20:=by
    simp only [List.mem_cons,List.not_mem_nil,or_false] at hz
    rcases hz with rfl | rfl | rfl | rfl | rfl | rfl<;>decide
   dsimp only
   obtain ⟨c,c1,c2⟩:=j5 (s:=x) (t:=z) (by omega)
   have c3:=congrArg List.length c2
   rw [List.length_append] at c3
   obtain ⟨d,d1,d2⟩:=j5 (s:=c) (t:=y) (by omega)
   rw [c1,obS,d1,obS]
   exact Dr.some trivial
  refine Dr.ite (λ_=>?_) λ_=>?_
  ·obtain ⟨x, x1, x2⟩ := be2 (s := T) (lo := 0) (hi := v) (by omega) (by omega) (by omega)
   rw [x1,obS]
   exact Dr.some trivial
  refine Dr.ite (λ_=>?_) λ_=>?_
  ·exact Dr.bind (ag5 hb (by omega) (by omega)) λx _=>Dr.some trivial
  refine Dr.ite (λ_=>?_) λ_=>Dr.some trivial
  obtain ⟨c,c1,c2⟩:=j5 (s:=T) (t:=mkS [32,102,110,32,113,32,40,32,41,32,123,32,105,102,32,49,32,123,32,125,32,101,108,115,101,32,123,32,125,32,125]) (by rw [c_b];simp;omega)
  rw [c1,obS]
  exact Dr.some trivial
 obtain ⟨z,h,_⟩:=key
 exact ⟨z,h⟩
theorem ai1 {ws:List eu} {s:Str} {p:fZ} (hc:rX s=some ws) (hr:rdG ws=some p.fns) (hp:kY p=true):gu s=some (p,true):=by
 have:=wV hc
 rw [hr] at this
 have h2:=this.2
 rw [show (⟨p.fns⟩:fZ)=p from rfl,hp] at h2
 exact h2
end Prg
end Go.Wk
namespace Go.Wk
open Go
namespace Prg
set_option maxRecDepth 10000
theorem aw3 (q:List UInt8):∀ (k:Nat) (l:List UInt8),l.length≤k→tok (l++32::q)=(tok l).bind λa=>(tok q).map λb=>a++b:=by
 have h0:tok (32::q)=(tok q).map λb=>([]:List eu)++b:=by
  rw [pg,if_pos (by decide)]
  cases tok q<;>rfl
 intro k
 induction k with
 | zero =>
  intro l hl
  have:l=[]:=List.eq_nil_of_length_eq_zero (by omega)
  subst this
  rw [List.nil_append,qK,obS,h0]
 | succ k ih =>
  intro l hl
  cases l with
  | nil=>rw [List.nil_append,qK,obS,h0]
  | cons d r =>
   simp at hl
   have ht:=yy (ax1 d) q r
   rw [List.cons_append,pg,pg,ht.1,ht.2]
   by_cases h1:sU d=true
   ·rw [if_pos h1,if_pos h1];exact ih r hl
   rw [if_neg h1,if_neg h1]
   by_cases h2:k7 (pZ d (r.takeWhile (jd d)))=true
   ·rw [if_pos h2,if_pos h2,ih _ (Nat.le_trans (qx _ _) hl)]
    cases tok (r.dropWhile (jd d)) with
    | none=>rfl
    | some a=>cases tok q<;>rfl
   ·rw [if_neg h2,if_neg h2];rfl
theorem qH {ws v:List eu} {t:Str} (h:ws≠[]):isT (ws++v) t=isT ws t:=by
 cases ws with
 | nil=>exact absurd rfl h
 | cons w r=>rfl
theorem au6 {ws v:List eu} {lv:Int} (h:ws≠[]):opT lv (ws++v)=opT lv ws:=by
 cases ws with
 | nil=>exact absurd rfl h
 | cons w r=>rfl
def bm3 (v:List eu):Job→Prop
 | .E lv ws e r=>r≠[]→Rd (.E lv (ws++v) e (r++v))
 | .L lv x ws e r=>r≠[]→Rd (.L lv x (ws++v) e (r++v))
 | .A ws ks r=>Rd (.A (ws++v) ks (r++v))
 | .M acc ws ks r=>Rd (.M acc (ws++v) ks (r++v))
theorem zX {a b:List eu} (h:a≠[]) (hl:a.length≤b.length):b≠[]:=by
 intro e
 subst e
 exact h (List.eq_nil_of_length_eq_zero (by simpa using hl))
theorem be9 (v:List eu) {j:Job} (h:Rd j):bm3 v j:=by
 induction h
 case neg w ws e r hw h ih=>intro hr;exact .neg hw (ih hr)
 case at_ w ws e r hw h ih=>intro hr;exact .at_ hw (ih hr)
 case par w ws e u r hw h hv2 ih=>intro hr;exact .par hw (ih (by simp)) hv2
 case num w r hw=>intro hr;exact .num hw
 case var w r hw hp=>intro hr;exact .var hw (show isT (r++v) (mkS [40])=false by rw [qH hr];exact hp)
 case call w u ws ks r hw hv2 h ih=>intro hr;exact .call hw hv2 ih
 case up lv ws e ws' e' r hlv h1 h2 ih1 ih2 =>
  intro hr
  obtain ⟨s1,s2⟩:=ma h2
  exact .up hlv (ih1 (zX hr s1)) (ih2 hr)
 case stop lv e ws ho=>intro hr;exact .stop (by rw [au6 hr];exact ho)
 case step lv e w ws f ws' e' r ho h1 h2 ih1 ih2 =>
  intro hr
  obtain ⟨s1,s2⟩:=ma h2
  exact .step ho (ih1 (zX hr s1)) (ih2 hr)
 case done u r hv2=>exact .done hv2
 case first ws e ws' ks r ht h1 h2 ih1 ih2 =>
  obtain ⟨s1,s2⟩:=ma h2
  obtain ⟨s3,s4⟩:=ma h1
  have hw:ws'≠[]:=by intro e;subst e;simp at s1
  exact .first (by rw [qH (zX hw (by omega))];exact ht) (ih1 hw) ih2
 case last acc u r hv2=>exact .last hv2
 case more acc u ws e ws' ks r hv2 h1 h2 ih1 ih2 =>
  obtain ⟨s1,s2⟩:=ma h2
  have hw:ws'≠[]:=by intro e;subst e;simp at s1
  exact .more hv2 (ih1 hw) ih2
def Vx (v ws:List eu):Prop:=vW (ws++v)∧(ws++v).length≤1000
theorem Vx.suf {v ws q:List eu} (h:Vx v ws) (hs:Suf q ws):Vx v q:=by
 obtain ⟨h1,h2⟩:=h
 refine ⟨λx hx=>?_,?_⟩
 ·rcases List.mem_append.1 hx with g | g
  ·exact h1 x (List.mem_append_left _ (hs.2 x g))
  ·exact h1 x (List.mem_append_right _ g)
 ·simp only [List.length_append] at h2 ⊢
  have:=hs.1
  omega
theorem wU {v ws r:List eu} {e:ey} (hx:Vx v ws) (h:rE ws=some (e,r)) (hr:r≠[]):rE (ws++v)=some (e,r++v):=ba8 hx.1 hx.2 (be9 v (vm h) hr)
theorem ad3 {t:Str} {ws q:List eu} (h:wT t ws=some q):ws≠[]:=by
 intro e;subst e;simp [wT,isT] at h
theorem pv {t:Str} {v ws q:List eu} (h:wT t ws=some q):wT t (ws++v)=some (q++v):=by
 have hn:=ad3 h
 unfold wT at h ⊢
 rw [qH hn]
 split at h
 ·rename_i ht
  cases h
  rw [if_pos ht]
  cases ws with
  | nil=>exact absurd rfl hn
  | cons w r=>rfl
 ·cases h
theorem zc {v ws q:List eu} {n:Str} (h:nT ws=some (n,q)):nT (ws++v)=some (n,q++v):=by
 cases ws with
 | nil=>cases h
 | cons w r =>
  unfold nT at h ⊢
  dsimp only [List.cons_append] at h ⊢
  split at h
  ·rename_i hk;cases h;rw [if_pos hk]
  ·cases h
theorem ah0 {v ws q:List eu} {op:Int} {n:Str} (h:kK ws=some (op,n,q)):kK (ws++v)=some (op,n,q++v):=by
 cases ws with
 | nil=>cases h
 | cons w r =>
  unfold kK at h ⊢
  dsimp only [List.cons_append] at h ⊢
  split at h
  ·rename_i h0
   rw [if_pos h0]
   split at h
   ·rename_i hk
    rw [if_pos hk]
    obtain ⟨q',h1,h2⟩:=Option.map_eq_some_iff.1 h
    cases h2
    rw [pv h1];rfl
   ·cases h
  ·rename_i h0
   rw [if_neg h0]
   split at h
   ·rename_i h1
    rw [if_pos h1]
    obtain ⟨⟨p,q1⟩,h3,h2⟩:=Option.bind_eq_some_iff.1 h
    obtain ⟨q',h4,h5⟩:=Option.map_eq_some_iff.1 h2
    cases h5
    rw [zc h3,obS]
    dsimp only
    rw [pv h4];rfl
   ·rename_i h1
    rw [if_neg h1]
    cases h
    rfl
theorem bb1 {k:Nat} {ws r:List eu} {b:List fB} (h:pK k ws=some (b,r)):ws≠[]:=by
 intro e;subst e
 have:=(oS k).2.1 _ _ _ h
 exact absurd this.1 (by simp)
theorem bb5 {k:Nat} {acc:List fB} {ws r:List eu} {b:List fB} (h:pB k acc ws=some (b,r)):ws≠[]:=by
 intro e;subst e
 have:=(oS k).2.2 _ _ _ _ h
 exact absurd this.1 (by simp)
theorem wq {ws v:List eu} (h:ws≠[]):(ws++v).tail=ws.tail++v:=by
 cases ws with
 | nil=>exact absurd rfl h
 | cons w r=>rfl
theorem bd9 {ws:List eu} {t:Str} (h:isT ws t=true):ws≠[]:=by
 intro e;subst e;cases h
theorem bd1 {ws:List eu} (h:ws≠[]):Suf ws.tail ws:=by
 cases ws with
 | nil=>exact absurd rfl h
 | cons w r=>exact (mH w r).le
theorem az4 (v:List eu):∀ k:Nat,(∀ ws s r,pS k ws=some (s,r)→Vx v ws→r≠[]→pS k (ws++v)=some (s,r++v))∧(∀ ws b r,pK k ws=some (b,r)→Vx v ws→pK k (ws++v)=some (b,r++v))∧(∀ acc ws b r,pB k acc ws=some (b,r)→Vx v ws→pB k acc (ws++v)=some (b,r++v)):=by
 intro k
 induction k with
 | zero=>exact ⟨λws s r h=>(by rw [pS] at h;cases h),λws s r h=>(by rw [pK] at h;cases h),λacc ws s r h=>(by rw [pB] at h;cases h)⟩
 | succ k ih =>
  obtain ⟨i1,i2,i3⟩:=ih
  refine ⟨λws s r h hx hr=>?_,λws b r h hx=>?_,λacc ws b r h hx=>?_⟩
  ·rw [pS] at h ⊢
   obtain ⟨⟨op,nm,q⟩,h1,h⟩:=Option.bind_eq_some_iff.1 h
   obtain ⟨⟨e,q2⟩,h2,h⟩:=Option.bind_eq_some_iff.1 h
   have x1:=hx.suf (tD h1).le
   have x2:=x1.suf (qn h2).le
   rw [ah0 h1,obS]
   dsimp only at h h2 x2 ⊢
   split at h
   ·rename_i h4
    obtain ⟨q3,h3,h⟩:=Option.bind_eq_some_iff.1 h
    obtain ⟨⟨e2,q4⟩,h5,h⟩:=Option.bind_eq_some_iff.1 h
    obtain ⟨q5,h6,h⟩:=Option.map_eq_some_iff.1 h
    cases h
    have x3:=x2.suf (jT h3).le
    rw [wU x1 h2 (ad3 h3),obS]
    dsimp only
    rw [if_pos h4,pv h3,obS,wU x3 h5 (ad3 h6),obS]
    dsimp only
    rw [pv h6];rfl
   ·rename_i h4
    split at h
    ·rename_i h5
     obtain ⟨⟨b,q3⟩,h3,h⟩:=Option.bind_eq_some_iff.1 h
     have x3:=x2.suf ((oS k).2.1 _ _ _ h3).le
     rw [wU x1 h2 (bb1 h3),obS]
     dsimp only
     rw [if_neg h4,if_pos h5,i2 _ _ _ h3 x2,obS]
     dsimp only at h x3 ⊢
     split at h
     ·rename_i ht
      obtain ⟨⟨c,q4⟩,h6,h⟩:=Option.map_eq_some_iff.1 h
      cases h
      have hn:=bd9 ht
      rw [qH hn,if_pos ht,wq hn,i2 _ _ _ h6 (x3.suf (bd1 hn))]
      rfl
     ·rename_i ht
      cases h
      rw [qH hr,if_neg ht]
    ·rename_i h5
     split at h
     ·rename_i h6
      obtain ⟨⟨b,q3⟩,h3,h⟩:=Option.map_eq_some_iff.1 h
      cases h
      rw [wU x1 h2 (bb1 h3),obS]
      dsimp only
      rw [if_neg h4,if_neg h5,if_pos h6,i2 _ _ _ h3 x2];rfl
     ·rename_i h6
      obtain ⟨q3,h3,h⟩:=Option.map_eq_some_iff.1 h
      cases h
      rw [wU x1 h2 (ad3 h3),obS]
      dsimp only
      rw [if_neg h4,if_neg h5,if_neg h6,pv h3];rfl
  ·rw [pK] at h ⊢
   obtain ⟨q,h1,h⟩:=Option.bind_eq_some_iff.1 h
   rw [pv h1,obS]
   exact i3 _ _ _ _ h (hx.suf (jT h1).le)
  ·have hn:=bb5 h
   rw [pB] at h ⊢
   rw [qH hn]
   split at h
   ·rename_i ht
    cases h
    rw [if_pos ht,wq hn]
   ·rename_i ht
    obtain ⟨⟨s,q⟩,h1,h⟩:=Option.bind_eq_some_iff.1 h
    dsimp only at h
    rw [if_neg ht,i1 _ _ _ h1 hx (bb5 h),obS]
    exact i3 _ _ _ _ h (hx.suf ((oS k).1 _ _ _ h1).le)
theorem aj4 (v:List eu):∀ (k:Nat) (acc:List Str) (ws:List eu) (ps:List Str) (r:List eu),pP k acc ws=some (ps,r)→pP k acc (ws++v)=some (ps,r++v)
 | 0,acc,ws,ps,r,h=>by rw [pP] at h;cases h
 | k+1,acc,ws,ps,r,h=>by
  have hn:ws≠[]:=by
   intro e;subst e
   exact absurd (rj _ _ _ _ _ h).1 (by simp)
  rw [pP] at h ⊢
  rw [qH hn]
  split at h
  ·rename_i ht
   cases h
   rw [if_pos ht,wq hn]
  ·rename_i ht
   rw [if_neg ht]
   obtain ⟨⟨n,q⟩,h1,h⟩:=Option.bind_eq_some_iff.1 h
   obtain ⟨q2,h2,h3⟩:=Option.bind_eq_some_iff.1 h1
   have e1:(if acc=[] then some (ws++v) else wT (mkS [44]) (ws++v))=some (q2++v):=by
    split at h2
    ·rename_i h0;cases h2;rw [if_pos h0]
    ·rename_i h0;rw [if_neg h0,pv h2]
   rw [e1,obS,zc h3,obS]
   exact aj4 v k _ _ _ _ h
theorem be8 {v ws r:List eu} {k:Nat} {f:Fn_} (h:pF k ws=some (f,r)) (hx:Vx v ws):pF k (ws++v)=some (f,r++v):=by
 unfold pF at h ⊢
 obtain ⟨a,h1,h⟩:=Option.bind_eq_some_iff.1 h
 obtain ⟨⟨n,b⟩,h2,h⟩:=Option.bind_eq_some_iff.1 h
 obtain ⟨c,h3,h⟩:=Option.bind_eq_some_iff.1 h
 obtain ⟨⟨ps,d⟩,h4,h⟩:=Option.bind_eq_some_iff.1 h
 obtain ⟨⟨q,r'⟩,h5,h⟩:=Option.map_eq_some_iff.1 h
 cases h
 dsimp only at h3 h4 h5
 have x1:=(((hx.suf (jT h1).le).suf (oo h2).le).suf (jT h3).le).suf (rj _ _ _ _ _ h4).le
 rw [pv h1,obS,zc h2,obS]
 dsimp only
 rw [pv h3,obS,aj4 v _ _ _ _ _ h4,obS]
 dsimp only
 rw [(az4 v k).2.1 _ _ _ h5 x1];rfl
theorem af1 {k0:Nat}:∀ (k:Nat) (acc:List Fn_) (ws:List eu) (R:List Fn_),pG k0 k acc ws=some R→∀ m,ws.length<m→pG k0 m acc ws=some R
 | 0,acc,ws,R,h,m,hm=>by rw [pG] at h;cases h
 | k+1,acc,ws,R,h,m,hm=>by
  obtain ⟨m,rfl⟩:∃ j,m=j+1:=⟨m - 1,by omega⟩
  rw [pG] at h ⊢
  split at h
  ·rename_i h0;rw [if_pos h0];exact h
  ·rename_i h0
   rw [if_neg h0]
   obtain ⟨⟨f,q⟩,h1,h⟩:=Option.bind_eq_some_iff.1 h
   have hq:=(xa h1).1
   rw [h1,obS]
   exact af1 k _ _ _ h m (by dsimp only;omega)
theorem zp {k0:Nat}:∀ (k:Nat) (acc:List Fn_) (ws:List eu),pG k0 k acc ws=(pG k0 k [] ws).map (acc++·)
 | 0,acc,ws=>by rw [pG,pG];rfl
 | k+1,acc,ws=>by
  rw [pG,pG]
  by_cases h0:ws=[]
  ·rw [if_pos h0,if_pos h0];simp
  ·rw [if_neg h0,if_neg h0]
   cases pF k0 ws with
   | none=>rfl
   | some p =>
    rw [obS,obS,zp k (acc++[p.1]),zp k ([]++[p.1])]
    cases pG k0 k [] p.2 with
    | none=>rfl
    | some l=>simp
theorem aq7 {k0:Nat} {w:List eu} {R':List Fn_} {m0:Nat}:∀ (k:Nat) (acc:List Fn_) (u:List eu) (R:List Fn_),pG k0 k acc u=some R→pG k0 m0 R w=some R'→Vx w u→∀ m,(u++w).length<m→pG k0 m acc (u++w)=some R'
 | 0,acc,u,R,h,_,_,m,hm=>by rw [pG] at h;cases h
 | k+1,acc,u,R,h,h',hx,m,hm=>by
  rw [pG] at h
  split at h
  ·rename_i h0
   subst h0
   cases h
   rw [List.nil_append] at hm ⊢
   exact af1 _ _ _ _ h' m hm
  ·rename_i h0
   obtain ⟨⟨f,q⟩,h1,h⟩:=Option.bind_eq_some_iff.1 h
   have hq:=(xa h1)
   obtain ⟨m,rfl⟩:∃ j,m=j+1:=⟨m - 1,by omega⟩
   rw [pG,if_neg (by simp [h0]),be8 h1 hx,obS]
   refine aq7 k _ q R h h' (hx.suf hq.le) m ?_
   simp only [List.length_append] at hm ⊢
   have:=hq.1
   omega
theorem av9 {u w:List eu} {fu fw:List Fn_} (hu:rdG u=some fu) (hw:rdG w=some fw) (hv:vW (u++w)) (hl:(u++w).length≤1000):rdG (u++w)=some (fu++fw):=by
 unfold rdG at hu hw ⊢
 have h1:=zp (k0:=2000) 1001 fu w
 rw [hw] at h1
 exact aq7 1001 [] u fu hu h1 ⟨hv,hl⟩ 1001 (by omega)
theorem sW {s:Str} {ws:List eu}:rX s=some ws↔s.b.length≤3000∧tok s.b=some ws∧ws.length≤600:=by
 unfold rX
 constructor
 ·intro h
  split at h
  ·rename_i h1
   rw [Option.filter_eq_some_iff] at h
   exact ⟨h1,h.1,of_decide_eq_true h.2⟩
  ·cases h
 ·rintro ⟨h1,h2,h3⟩
  rw [if_pos h1,h2]
  simp [h3]
theorem ah2 {a b:fZ} (ha:me a.fns≤40) (hb:me b.fns≤40):me (a.fns++b.fns)≤80:=by
 rw [o9];omega
theorem law_twoPrograms (code more:List UInt8):lZ code more=some true:=by
 unfold lZ
 by_cases hb:1048576<(code.length:Int)
 ·rw [if_pos (decide_eq_true hb)];rfl
 rw [if_neg (by simpa using hb),obS]
 by_cases hb2:1048576<(more.length:Int)
 ·rw [if_pos (decide_eq_true hb2)]
 rw [if_neg (by simpa using hb2)]
 obtain ⟨s,hs⟩:=tu code
 obtain ⟨t,ht⟩:=tu more
 obtain ⟨p,ok,r1,r2,h⟩:=oa s
 obtain ⟨q,ok',r1',r2',h'⟩:=oa t
 refine fT hs (fT ht (fT r2 (fT r2' (fT r1 (fT r1' ?_)))))
 dsimp only
 have e0:∀ x:Bool,decide (x≠x)=false:=by simp
 have e1:∀ x:Bool,decide (x=x)=true:=by simp
 have hself:gk noP noP=some true:=by unfold gk;rfl
 have sp:gk p p=some true:=by
  rcases h with ⟨_,hp,_⟩ | ⟨_,rfl⟩
  ·exact wc hp
  ·exact hself
 have sq:gk q q=some true:=by
  rcases h' with ⟨_,hp,_⟩ | ⟨_,rfl⟩
  ·exact wc hp
  ·exact hself
 rw [e0,e0,e1,e1,if_neg Bool.false_ne_true,if_neg Bool.false_ne_true]
 by_cases hboth:ok=true∧ok'=true
 ·obtain ⟨rfl,rfl⟩:=hboth
  rcases h with ⟨_,hp,ws,hc,hr⟩ | ⟨h,_⟩
  rotate_left
  ·cases h
  rcases h' with ⟨_,hp',ws',hc',hr'⟩ | ⟨h,_⟩
  rotate_left
  ·cases h
  refine fT (a:=false) (fT sp (fT sq rfl)) ?_
  rw [if_neg Bool.false_ne_true]
  obtain ⟨c1,c2,c3⟩:=sW.1 hc
  obtain ⟨d1,d2,d3⟩:=sW.1 hc'
  obtain ⟨n1,n2,hf⟩:=qw hp
  obtain ⟨n1',n2',hf'⟩:=qw hp'
  have hcnt:=zD (by omega) hr hp
  have hcnt':=zD (by omega) hr' hp'
  have hv:=(rf hc).1
  have hv':=(rf hc').1
  have a1:fq ([]:List Fn_) p.fns=some p.fns:=by
   rw [jH (by simp;omega),List.nil_append]
  have a2:fq p.fns q.fns=some (p.fns++q.fns):=jH (by omega)
  refine fT (fT a1 (fT a2 rfl)) ?_
  obtain ⟨x,x1,x2⟩:=j5 (s:=s) (t:=mkS [32]) (by rw [c_b];simp;omega)
  have x3:x.b.length=s.b.length+1:=by rw [x2,List.length_append];rfl
  obtain ⟨y,y1,y2⟩:=j5 (s:=x) (t:=t) (by omega)
  have y3:y.b.length=s.b.length+1+t.b.length:=by rw [y2,List.length_append,x3]
  have htok:tok y.b=some (ws++ws'):=by
   rw [y2,x2]
   have:=aw3 t.b s.b.length s.b (Nat.le_refl _)
   rw [c2,d2,obS] at this
   simpa [mkS] using this
  obtain ⟨z,okz,z1,z2,hz⟩:=oa y
  have hboth:∃ T,jP ⟨p.fns++q.fns⟩=some T∧(kY ⟨p.fns++q.fns⟩=false→T.2=false):=by
   cases hpb:kY ⟨p.fns++q.fns⟩ with
   | true=>exact ⟨_,zA hpb (by have:=ah2 hcnt hcnt';dsimp only;omega),λh=>by cases h⟩
   | false=>exact ⟨_,yW hpb,λ_=>rfl⟩
  obtain ⟨T,hT,hT2⟩:=hboth
  refine fT x1 (fT y1 (fT z2 (fT hT (fT (nz s) (fT (nz t) ?_)))))
  rw [oX hc,oX hc']
  dsimp only
  refine fT (a:=true) ?_ rfl
  have happ:(ws++ws').length≤600→rdG (ws++ws')=some (p.fns++q.fns):=λhl=>av9 hr hr' (nb hv hv') (by omega)
  rcases hz with ⟨rfl,hpz,wz,hcz,hrz⟩ | ⟨rfl,rfl⟩
  ·obtain ⟨k1,k2,k3⟩:=sW.1 hcz
   rw [htok] at k2
   cases k2
   rw [happ k3] at hrz
   have hzz:z=⟨p.fns++q.fns⟩:=by
    cases z
    simp at hrz
    rw [hrz]
   rw [hzz]
   rw [if_neg (by simp)]
   exact fT (zT _) rfl
  ·rw [if_pos (by rfl)]
   cases h2:T.2 with
   | false=>rfl
   | true =>
    rw [if_neg (by simp)]
    by_cases q1:3000<(s.b.length:Int)+(t.b.length:Int)+1
    ·rw [if_pos (decide_eq_true q1)]
    rw [if_neg (by simpa using q1)]
    by_cases q2:600<(ws.length:Int)+(ws'.length:Int)
    ·rw [if_pos (decide_eq_true q2)]
    exfalso
    have hl:(ws++ws').length≤600:=by rw [List.length_append];omega
    have hcy:rX y=some (ws++ws'):=sW.2 ⟨by omega,htok,hl⟩
    have hpb:kY ⟨p.fns++q.fns⟩=true:=by
     cases hpb:kY ⟨p.fns++q.fns⟩ with
     | true=>rfl
     | false=>rw [hT2 hpb] at h2;cases h2
    have:=ai1 hcy (p:=⟨p.fns++q.fns⟩) (happ hl) hpb
    rw [z2] at this
    have:=congrArg (λo=>o.map (λx:fZ × Bool=>x.2)) this
    cases this
 ·refine fT (a:=true) (fT sp ?_) ?_
  ·rw [if_neg (by simp)]
   refine fT sq ?_
   rw [if_neg (by simp)]
   cases ok with
   | false=>rfl
   | true =>
    cases ok' with
    | false=>rfl
    | true=>exact absurd ⟨rfl,rfl⟩ hboth
  ·rw [if_pos rfl]
   refine fT (a:=true) ?_ rfl
   rw [if_pos rfl,if_pos rfl]
   refine fT sp ?_
   rw [if_pos rfl]
   exact fT sq rfl
end Prg
end Go.Wk
