/- A part of the proof of FnProgramBackCardSaid. -/
import Derived.Test.YtkopacpickeojaaGreatDoorPbA
namespace Go.Wk
open Go
namespace Prg
set_option maxRecDepth 10000
theorem bx3 {ws:List kJ} (hv:vW ws) (hl:ws.length≤1000) {lv:Int} {e e':kK} {r r':List kJ} (h:Rd (.E lv ws e r)) (h':Rd (.E lv ws e' r')):e=e'∧r=r':=by
 have h1:=sl h hv hl
 have h2:=sl h' hv hl
 rw [h1] at h2
 simp only [osI,Prod.mk.injEq,kM.mk.injEq] at h2
 exact ⟨h2.1,h2.2.1⟩
open Classical in
noncomputable def rE (ws:List kJ):Option (kK × List kJ):=if h:∃ p:kK × List kJ,Rd (.E 1 ws p.1 p.2) then some h.choose else none
theorem af5 {ws:List kJ} {e:kK} {r:List kJ} (h:rE ws=some (e,r)):Rd (.E 1 ws e r):=by
 unfold rE at h
 split at h
 ·rename_i hx
  have:=hx.choose_spec
  rw [Option.some.inj h] at this
  exact this
 ·cases h
theorem bs5 {ws:List kJ} (hv:vW ws) (hl:ws.length≤1000) {e:kK} {r:List kJ} (h:Rd (.E 1 ws e r)):rE ws=some (e,r):=by
 unfold rE
 have hx:∃ p:kK × List kJ,Rd (.E 1 ws p.1 p.2):=⟨(e,r),h⟩
 rw [dif_pos hx]
 obtain ⟨h1,h2⟩:=bx3 hv hl hx.choose_spec h
 rw [← h1,← h2]
theorem at5 {ws:List kJ} (hv:vW ws) (hl:ws.length≤1000) (h:rE ws=none):az9 1 ws:=by
 rcases bo0 ws.length ws (Nat.le_refl _) hl hv 1 (by omega) with ⟨e,r,hr⟩ | hf
 ·rw [bs5 hv hl hr] at h;cases h
 ·exact hf
def zz:Str:=mkS [108,101,116]
def zY:Str:=mkS [115,97,121]
def z7:Str:=mkS [112,117,116]
def tIf:Str:=mkS [105,102]
def qG:Str:=mkS [101,108,115,101]
def vZ:Str:=mkS [108,111,111,112]
def vd:Str:=mkS [98,97,99,107]
def tDo:Str:=mkS [100,111]
def tFn:Str:=mkS [102,110]
def opK (t:Str):Int:=if t=zz then 1 else if t=zY then 3 else if t=z7 then 4 else if t=tIf then 5 else if t=vZ then 6 else if t=vd then 7 else if t=tDo then 8 else 0
def wT (t:Str) (ws:List kJ):Option (List kJ):=if isT ws t then some ws.tail else none
def nT (ws:List kJ):Option (Str × List kJ):=match ws with
 | []=>none
 | w::r=>if w.kind=1 then some (w.text,r) else none
def oW (ws:List kJ):Option (Int × Str × List kJ):=match ws with
 | []=>none
 | w :: r => if opK w.text = 0 then (if w.kind = 1 then (wT (mkS [61]) r).map fun q => (2, w.text, q) else none)
  else if opK w.text=1 then (nT r).bind λp=>(wT (mkS [61]) p.2).map λq=>(1,p.1,q)
  else some (opK w.text,mkS [],r)
mutual
noncomputable def pS:Nat→List kJ→Option (kN × List kJ)
 | 0,_=>none
 | k+1,ws=>(oW ws).bind λh=>(rE h.2.2).bind λa =>
  if h.1=4 then (wT (mkS [44]) a.2).bind λq=>(rE q).bind λb=>(wT (mkS [59]) b.2).map λr=>(⟨4,h.2.1,[a.1,b.1],[],[]⟩,r)
  else if h.1=5 then (pK k a.2).bind λb=>if isT b.2 qG then (pK k b.2.tail).map λc=>(⟨5,h.2.1,[a.1],b.1,c.1⟩,c.2) else some (⟨5,h.2.1,[a.1],b.1,[]⟩,b.2)
  else if h.1=6 then (pK k a.2).map λb=>(⟨6,h.2.1,[a.1],b.1,[]⟩,b.2)
  else (wT (mkS [59]) a.2).map λr=>(⟨h.1,h.2.1,[a.1],[],[]⟩,r)
noncomputable def pK:Nat→List kJ→Option (List kN × List kJ)
 | 0,_=>none
 | k+1,ws=>(wT (mkS [123]) ws).bind λq=>pB k [] q
noncomputable def pB:Nat→List kN→List kJ→Option (List kN × List kJ)
 | 0,_,_=>none
 | k+1,acc,ws=>if isT ws (mkS [125]) then some (acc,ws.tail) else (pS k ws).bind λs=>pB k (acc++[s.1]) s.2
end
noncomputable def pP:Nat→List Str→List kJ→Option (List Str × List kJ)
 | 0,_,_=>none
 | k+1,acc,ws=>if isT ws (mkS [41]) then some (acc,ws.tail) else ((if acc=[] then some ws else wT (mkS [44]) ws).bind nT).bind λp=>pP k (acc++[p.1]) p.2
noncomputable def pF (k:Nat) (ws:List kJ):Option (Fn_ × List kJ):=(wT tFn ws).bind λa=>(nT a).bind λb=>(wT (mkS [40]) b.2).bind λc=>(pP k [] c).bind λd=>(pK k d.2).map λq=>(⟨b.1,d.1,q.1⟩,q.2)
noncomputable def pG (k0:Nat):Nat→List Fn_→List kJ→Option (List Fn_)
 | 0,_,_=>none
 | k+1,acc,ws=>if ws=[] then some acc else (pF k0 ws).bind λp=>pG k0 k (acc++[p.1]) p.2
def Suf (r ws:List kJ):Prop:=r.length≤ws.length∧∀ x∈r,x∈ws
def nj (r ws:List kJ):Prop:=r.length<ws.length∧∀ x∈r,x∈ws
theorem nj.le {r ws:List kJ} (h:nj r ws):Suf r ws:=⟨Nat.le_of_lt h.1,h.2⟩
theorem Suf.trans {a b c:List kJ} (h:Suf a b) (h':Suf b c):Suf a c:=⟨Nat.le_trans h.1 h'.1,λx hx=>h'.2 x (h.2 x hx)⟩
theorem nj.trans {a b c:List kJ} (h:Suf a b) (h':nj b c):nj a c:=⟨Nat.lt_of_le_of_lt h.1 h'.1,λx hx=>h'.2 x (h.2 x hx)⟩
theorem Suf.vW {r ws:List kJ} (h:Suf r ws) (hv:Prg.vW ws):Prg.vW r:=λx hx=>hv x (h.2 x hx)
theorem qn (w:kJ) (r:List kJ):nj r (w::r):=⟨by simp,λx hx=>by simp [hx]⟩
theorem o4 {t:Str} {ws q:List kJ} (h:wT t ws=some q):nj q ws:=by
 unfold wT at h
 cases ws with
 | nil=>simp [isT] at h
 | cons w r =>
  split at h
  ·cases h;exact qn w r
  ·cases h
theorem tx {ws q:List kJ} {n:Str} (h:nT ws=some (n,q)):nj q ws:=by
 unfold nT at h
 cases ws with
 | nil=>cases h
 | cons w r =>
  dsimp only at h
  split at h
  ·cases h;exact qn _ _
  ·cases h
theorem zO {ws r:List kJ} {e:kK} (h:rE ws=some (e,r)):nj r ws:=s9 (af5 h)
theorem ay9 {ws q:List kJ} {op:Int} {n:Str} (h:oW ws=some (op,n,q)):nj q ws:=by
 unfold oW at h
 cases ws with
 | nil=>cases h
 | cons w r =>
  dsimp only at h
  split at h
  ·split at h
   ·obtain ⟨q',h1,h2⟩:=Option.map_eq_some_iff.1 h
    cases h2
    exact nj.trans (o4 h1).le (qn w r)
   ·cases h
  ·split at h
   ·obtain ⟨p,h1,h2⟩:=Option.bind_eq_some_iff.1 h
    obtain ⟨q',h3,h4⟩:=Option.map_eq_some_iff.1 h2
    cases h4
    exact nj.trans ((o4 h3).le.trans (tx (n:=p.1) (q:=p.2) h1).le) (qn w r)
   ·cases h
    exact qn w _
theorem xH:∀ k:Nat,(∀ ws s r,pS k ws=some (s,r)→nj r ws)∧(∀ ws b r,pK k ws=some (b,r)→nj r ws)∧(∀ acc ws b r,pB k acc ws=some (b,r)→nj r ws):=by
 intro k
 induction k with
 | zero=>exact ⟨λws s r h=>(by rw [pS] at h;cases h),λws s r h=>(by rw [pK] at h;cases h),λacc ws s r h=>(by rw [pB] at h;cases h)⟩
 | succ k ih =>
  obtain ⟨i1,i2,i3⟩:=ih
  refine ⟨λws s r h=>?_,λws b r h=>?_,λacc ws b r h=>?_⟩
  ·rw [pS] at h
   obtain ⟨⟨op,nm,q⟩,h1,h⟩:=Option.bind_eq_some_iff.1 h
   obtain ⟨⟨e,q2⟩,h2,h⟩:=Option.bind_eq_some_iff.1 h
   have s1:=ay9 h1
   have s2:nj q2 ws:=nj.trans (zO h2).le s1
   dsimp only at h h2
   split at h
   ·obtain ⟨q3,h3,h⟩:=Option.bind_eq_some_iff.1 h
    obtain ⟨⟨e2,q4⟩,h4,h⟩:=Option.bind_eq_some_iff.1 h
    obtain ⟨q5,h5,h⟩:=Option.map_eq_some_iff.1 h
    cases h
    exact nj.trans ((o4 h5).le.trans ((zO h4).le.trans (o4 h3).le)) s2
   ·split at h
    ·obtain ⟨⟨b,q3⟩,h3,h⟩:=Option.bind_eq_some_iff.1 h
     dsimp only at h
     split at h
     ·rename_i ht
      obtain ⟨⟨c,q4⟩,h4,h⟩:=Option.map_eq_some_iff.1 h
      cases h
      have:Suf q3.tail q3:=by
       cases q3 with
       | nil=>exact ⟨Nat.le_refl _,λx hx=>hx⟩
       | cons y z=>exact (qn y z).le
      exact nj.trans ((i2 _ _ _ h4).le.trans (this.trans (i2 _ _ _ h3).le)) s2
     ·cases h
      exact nj.trans (i2 _ _ _ h3).le s2
    ·split at h
     ·obtain ⟨⟨b,q3⟩,h3,h⟩:=Option.map_eq_some_iff.1 h
      cases h
      exact nj.trans (i2 _ _ _ h3).le s2
     ·obtain ⟨q3,h3,h⟩:=Option.map_eq_some_iff.1 h
      cases h
      exact nj.trans (o4 h3).le s2
  ·rw [pK] at h
   obtain ⟨q,h1,h⟩:=Option.bind_eq_some_iff.1 h
   exact nj.trans (i3 _ _ _ _ h).le (o4 h1)
  ·rw [pB] at h
   split at h
   ·rename_i ht
    cases h
    cases ws with
    | nil=>cases ht
    | cons w r=>exact qn w r
   ·obtain ⟨⟨s,q⟩,h1,h⟩:=Option.bind_eq_some_iff.1 h
    exact nj.trans (i3 _ _ _ _ h).le (i1 _ _ _ h1)
theorem ae6:∀ (k:Nat) (acc:List Str) (ws:List kJ) (ps:List Str) (r:List kJ),pP k acc ws=some (ps,r)→nj r ws
 | 0,acc,ws,ps,r,h=>by rw [pP] at h;cases h
 | k+1,acc,ws,ps,r,h=>by
  rw [pP] at h
  split at h
  ·rename_i ht
   cases h
   cases ws with
   | nil=>cases ht
   | cons w r=>exact qn w r
  ·obtain ⟨⟨n,q⟩,h1,h⟩:=Option.bind_eq_some_iff.1 h
   obtain ⟨q2,h2,h3⟩:=Option.bind_eq_some_iff.1 h1
   have:Suf q2 ws:=by
    split at h2
    ·cases h2;exact ⟨Nat.le_refl _,λx hx=>hx⟩
    ·exact (o4 h2).le
   have s1:=tx h3
   exact nj.trans (ae6 k _ _ _ _ h).le ⟨Nat.lt_of_lt_of_le s1.1 this.1,λx hx=>this.2 x (s1.2 x hx)⟩
theorem bg5 {k:Nat} {ws r:List kJ} {f:Fn_} (h:pF k ws=some (f,r)):nj r ws:=by
 unfold pF at h
 obtain ⟨a,h1,h⟩:=Option.bind_eq_some_iff.1 h
 obtain ⟨⟨n,b⟩,h2,h⟩:=Option.bind_eq_some_iff.1 h
 obtain ⟨c,h3,h⟩:=Option.bind_eq_some_iff.1 h
 obtain ⟨⟨ps,d⟩,h4,h⟩:=Option.bind_eq_some_iff.1 h
 obtain ⟨⟨q,r'⟩,h5,h⟩:=Option.map_eq_some_iff.1 h
 cases h
 exact nj.trans (((xH k).2.1 _ _ _ h5).le.trans ((ae6 _ _ _ _ _ h4).le.trans ((o4 h3).le.trans (tx h2).le))) (o4 h1)
end Prg
end Go.Wk
namespace Go.Wk
open Go
namespace Prg
set_option maxRecDepth 10000
theorem am0 {w:kJ} (hw:oZ w=true) (hk:sa w.text=true):w.kind=4:=by
 have hne:=hk
 unfold sa at hne
 have hne:=of_decide_eq_true hne
 unfold oZ at hw
 by_cases h1:w.kind=1
 ·rw [if_pos h1] at hw
  unfold lu at hw
  rw [hk] at hw
  simp at hw
 rw [if_neg h1] at hw
 by_cases h2:w.kind=2
 ·rw [if_pos h2] at hw
  have:q7 w.text=-1:=by
   have key:∀ s∈k7,s.b.all nh=false:=by decide
   unfold q7
   rw [if_neg]
   rintro ⟨_,h,_⟩
   rw [key _ hne] at h;cases h
  rw [this] at hw
  simp at hw
 rw [if_neg h2] at hw
 by_cases h3:w.kind=3
 ·rw [if_pos h3] at hw
  have key:∀ s∈k7,∃ a b l,s.b=a::b::l:=by
   intro s hs
   unfold k7 at hs
   simp only [List.mem_cons,List.not_mem_nil,or_false] at hs
   rcases hs with rfl | rfl | rfl | rfl | rfl | rfl | rfl | rfl | rfl<;>exact ⟨_,_,_,rfl⟩
  obtain ⟨a,b,l,h⟩:=key _ hne
  rw [h] at hw
  cases hw
 rw [if_neg h3] at hw
 by_cases h4:w.kind=4
 ·exact h4
 ·rw [if_neg h4] at hw;cases hw
theorem bn8 {t:Str} (h:opK t≠0):sa t=true:=by
 unfold opK at h
 by_cases h1:t=zz
 ·subst h1;decide
 by_cases h2:t=zY
 ·subst h2;decide
 by_cases h3:t=z7
 ·subst h3;decide
 by_cases h4:t=tIf
 ·subst h4;decide
 by_cases h5:t=vZ
 ·subst h5;decide
 by_cases h6:t=vd
 ·subst h6;decide
 by_cases h7:t=tDo
 ·subst h7;decide
 ·simp [h1,h2,h3,h4,h5,h6,h7] at h
theorem ad6 (t:Str):opK t=0∨opK t=1∨opK t=3∨opK t=4∨opK t=5∨opK t=6∨opK t=7∨opK t=8:=by
 unfold opK;repeat' split
 all_goals decide
theorem bl7 (t:Str):xi t=some (if opK t=0 then 2 else opK t):=by
 by_cases h1:t=zz
 ·subst h1;rfl
 by_cases h2:t=zY
 ·subst h2;rfl
 by_cases h3:t=z7
 ·subst h3;rfl
 by_cases h4:t=tIf
 ·subst h4;rfl
 by_cases h5:t=vZ
 ·subst h5;rfl
 by_cases h6:t=vd
 ·subst h6;rfl
 by_cases h7:t=tDo
 ·subst h7;rfl
 have h0:opK t=0:=by unfold opK;simp [h1,h2,h3,h4,h5,h6,h7]
 rw [h0,if_pos rfl]
 unfold xi
 rw [show (((9:Int):Int) - 1).toNat=8 from rfl]
 have g:∀ i:Int,kn [(mkS []),zz,(mkS []),zY,z7,tIf,vZ,vd,tDo] i=([(mkS []),zz,(mkS []),zY,z7,tIf,vZ,vd,tDo]:List Str)[i.toNat]?∨i<0:=by
  intro i
  unfold kn
  by_cases h:0≤i
  ·left;simp [h]
  ·right;omega
 have e1:decide (mkS [108,101,116]=t)=false:=decide_eq_false λe=>h1 e.symm
 have e2:decide (mkS [115,97,121]=t)=false:=decide_eq_false λe=>h2 e.symm
 have e3:decide (mkS [112,117,116]=t)=false:=decide_eq_false λe=>h3 e.symm
 have e4:decide (mkS [105,102]=t)=false:=decide_eq_false λe=>h4 e.symm
 have e5:decide (mkS [108,111,111,112]=t)=false:=decide_eq_false λe=>h5 e.symm
 have e6:decide (mkS [98,97,99,107]=t)=false:=decide_eq_false λe=>h6 e.symm
 have e7:decide (mkS [100,111]=t)=false:=decide_eq_false λe=>h7 e.symm
 have e8:(if decide (mkS []=t)=true then some (decide (t≠mkS [])) else some false:Option Bool)=some false:=by
  by_cases h:mkS []=t
  ·subst h;rfl
  ·rw [decide_eq_false h];rfl
 have g1:kn ([(mkS []),(mkS [108,101,116]),(mkS []),(mkS [115,97,121]),(mkS [112,117,116]),(mkS [105,102]),(mkS [108,111,111,112]),(mkS [98,97,99,107]),(mkS [100,111])]:List Str) 1=some (mkS [108,101,116]):=rfl
 have g2:kn ([(mkS []),(mkS [108,101,116]),(mkS []),(mkS [115,97,121]),(mkS [112,117,116]),(mkS [105,102]),(mkS [108,111,111,112]),(mkS [98,97,99,107]),(mkS [100,111])]:List Str) 2=some (mkS []):=rfl
 have g3:kn ([(mkS []),(mkS [108,101,116]),(mkS []),(mkS [115,97,121]),(mkS [112,117,116]),(mkS [105,102]),(mkS [108,111,111,112]),(mkS [98,97,99,107]),(mkS [100,111])]:List Str) 3=some (mkS [115,97,121]):=rfl
 have g4:kn ([(mkS []),(mkS [108,101,116]),(mkS []),(mkS [115,97,121]),(mkS [112,117,116]),(mkS [105,102]),(mkS [108,111,111,112]),(mkS [98,97,99,107]),(mkS [100,111])]:List Str) 4=some (mkS [112,117,116]):=rfl
 have g5:kn ([(mkS []),(mkS [108,101,116]),(mkS []),(mkS [115,97,121]),(mkS [112,117,116]),(mkS [105,102]),(mkS [108,111,111,112]),(mkS [98,97,99,107]),(mkS [100,111])]:List Str) 5=some (mkS [105,102]):=rfl
 have g6:kn ([(mkS []),(mkS [108,101,116]),(mkS []),(mkS [115,97,121]),(mkS [112,117,116]),(mkS [105,102]),(mkS [108,111,111,112]),(mkS [98,97,99,107]),(mkS [100,111])]:List Str) 6=some (mkS [108,111,111,112]):=rfl
 have g7:kn ([(mkS []),(mkS [108,101,116]),(mkS []),(mkS [115,97,121]),(mkS [112,117,116]),(mkS [105,102]),(mkS [108,111,111,112]),(mkS [98,97,99,107]),(mkS [100,111])]:List Str) 7=some (mkS [98,97,99,107]):=rfl
 have g8:kn ([(mkS []),(mkS [108,101,116]),(mkS []),(mkS [115,97,121]),(mkS [112,117,116]),(mkS [105,102]),(mkS [108,111,111,112]),(mkS [98,97,99,107]),(mkS [100,111])]:List Str) 8=some (mkS [100,111]):=rfl
 simp only [forN,show (1:Int)+1=2 from rfl,show (2:Int)+1=3 from rfl,show (3:Int)+1=4 from rfl,show (4:Int)+1=5 from rfl,show (5:Int)+1=6 from rfl,show (6:Int)+1=7 from rfl,show (7:Int)+1=8 from rfl,g1,g2,g3,g4,g5,g6,g7,g8,obS,e1,e2,e3,e4,e5,e6,e7,e8,Bool.false_eq_true,if_false]
 rfl
theorem bf9 (t:Str):(th.get kz t).getD 0=opK t:=by
 unfold th.get kz rT opK
 by_cases h1:t=zz
 ·subst h1;rfl
 by_cases h2:t=zY
 ·subst h2;rfl
 by_cases h3:t=z7
 ·subst h3;rfl
 by_cases h4:t=tIf
 ·subst h4;rfl
 by_cases h5:t=vZ
 ·subst h5;rfl
 by_cases h6:t=vd
 ·subst h6;rfl
 by_cases h7:t=tDo
 ·subst h7;rfl
 have f1:¬ t=mkS [108,101,116]:=h1
 have f2:¬ t=mkS [115,97,121]:=h2
 have f3:¬ t=mkS [112,117,116]:=h3
 have f4:¬ t=mkS [105,102]:=h4
 have f5:¬ t=mkS [108,111,111,112]:=h5
 have f6:¬ t=mkS [98,97,99,107]:=h6
 have f7:¬ t=mkS [100,111]:=h7
 simp [pW,h1,h2,h3,h4,h5,h6,h7,f1,f2,f3,f4,f5,f6,f7]
def SpW (list:List kJ) (o:Option (List kJ)) (res:Option k8):Prop:=match o with
 | some r=>∃ m:Nat,AtW list m r∧res=some ⟨list,(m:Int)⟩
 | none=>res=some ⟨list,-1⟩
def SpO {X:Type} (list:List kJ) (o:Option (X × List kJ)) (res:Option (X × k8)):Prop:=match o with
 | some p=>∃ m:Nat,AtW list m p.2∧res=some (p.1,⟨list,(m:Int)⟩)
 | none=>∃ x,res=some (x,⟨list,-1⟩)
theorem sIs {list:List kJ} {n:Nat} {ws:List kJ} (h:AtW list n ws) (t:Str):lN ⟨list,(n:Int)⟩ t=some (isT ws t):=by
 unfold lN
 rw [if_pos (by simp),y8 h];rfl
theorem bk8 (list:List kJ) (t:Str):lN ⟨list,-1⟩ t=some false:=rfl
theorem ug {list:List kJ} (hl:list.length≤1000) {n:Nat} {ws:List kJ} (h:AtW list n ws) (t:Str):SpW list (wT t ws) (kU ⟨list,(n:Int)⟩ t):=by
 unfold kU wT
 rw [sIs h,obS]
 have:=h.2
 cases ws with
 | nil=>rfl
 | cons w r =>
  cases hi:isT (w::r) t with
  | true=>exact ⟨n+1,(mu h).2.2,by simp only [Bool.not_true,Bool.false_eq_true,if_false];rw [we (by omega)]⟩
  | false=>rfl
theorem qY (list:List kJ) (t:Str):kU ⟨list,-1⟩ t=some ⟨list,-1⟩:=by
 unfold kU
 rw [bk8];rfl
theorem av2 {list:List kJ} (hl:list.length≤1000) {n:Nat} {ws:List kJ} (h:AtW list n ws):SpO list (nT ws) (l9 ⟨list,(n:Int)⟩):=by
 unfold l9 nT
 have e0:decide ((n:Int)<0)=false:=by simp
 have hle:=h.2
 cases ws with
 | nil =>
  have h1:=ag7 h
  have e1:decide ((list.length:Int)≤(n:Int))=true:=by simp;omega
  dsimp only
  rw [e0,e1]
  exact ⟨_,rfl⟩
 | cons w r =>
  obtain ⟨h1,h2,h3⟩:=mu h
  have e1:decide ((list.length:Int)≤(n:Int))=false:=by simp;omega
  have e2:w64 (((n+1:Nat):Int) - 1)=(n:Int):=by rw [lV (by omega) (by omega)];omega
  dsimp only
  rw [e0,e1,we (by omega),e2,h2]
  by_cases hk:w.kind=1
  ·simp only [hk,Bool.false_eq_true,if_false,obS,ne_eq,not_true_eq_false,decide_false,if_true]
   exact ⟨n+1,h3,rfl⟩
  ·simp only [hk,Bool.false_eq_true,if_false,obS,ne_eq,not_false_eq_true,decide_true,if_true]
   exact ⟨_,rfl⟩
theorem bi9 (list:List kJ):l9 ⟨list,-1⟩=some (mkS [],⟨list,-1⟩):=rfl
theorem br9 {list:List kJ} (hl:list.length≤1000) (hv:vW list) {n:Nat} {ws:List kJ} (h:AtW list n ws):SpO list (rE ws) (my ⟨list,(n:Int)⟩):=by
 have hvw:vW ws:=λw hw=>hv w (List.mem_of_mem_drop (by rw [h.1];exact hw))
 have hlw:ws.length≤1000:=by rw [← h.1,List.length_drop];omega
 unfold my
 have e0:decide ((n:Int)<0)=false:=by simp
 dsimp only
 rw [e0]
 cases hr:rE ws with
 | some p =>
  obtain ⟨m,g1,g2,g3⟩:=wH hl hv (af5 hr) n h
  rw [if_neg (by simp),g3]
  refine ⟨m,g1,?_⟩
  simp only [obS,wY]
 | none =>
  obtain ⟨e,g⟩:=(at5 hvw hlw hr).1 list n hl hv h
  rw [if_neg (by simp),g]
  exact ⟨_,rfl⟩
theorem ab0 (list:List kJ):my ⟨list,-1⟩=some (⟨0,0,mkS [],[]⟩,⟨list,-1⟩):=rfl
theorem wj (list:List kJ):lS ⟨list,-1⟩=some ([],⟨list,-1⟩):=by
 rw [lS,qY,obS]
 refine ko (ko (lJ rfl) rfl) ?_
 rw [qY];rfl
def ImW (o:Option (List kJ)) (res:Option kM):Prop:=match o with
 | some r=>res=some ⟨r,false⟩
 | none=>∃ ws',res=some ⟨ws',true⟩
def ImO {X:Type} (o:Option (X × List kJ)) (res:Option (X × kM)):Prop:=match o with
 | some p=>res=some (p.1,⟨p.2,false⟩)
 | none=>∃ x ws',res=some (x,⟨ws',true⟩)
theorem sf (ws:List kJ) (k:Int) (t:Str):∃ ws',kP ⟨ws,true⟩ k t=some ⟨ws',true⟩:=by
 rw [tq]
 cases tkW ws k t<;>exact ⟨_,rfl⟩
theorem be0 {ws:List kJ} {k:Int} {t:Str} (h:tkW ws k t=isT ws t):ImW (wT t ws) (kP ⟨ws,false⟩ k t):=by
 rw [tq,h]
 unfold wT
 cases isT ws t with
 | true=>rfl
 | false=>exact ⟨_,rfl⟩
theorem y3 {ws:List kJ} (hw:vW ws) {t:Str} {c:UInt8} (ht:t.b=[c]) (hc:c∈rO):ImW (wT t ws) (kP ⟨ws,false⟩ 3 t):=be0 (ud hw ht hc)
theorem bd1 {ws:List kJ} (hw:vW ws) {t:Str} (ht:sa t=true):tkW ws 4 t=isT ws t:=by
 cases ws with
 | nil=>rfl
 | cons w r =>
  unfold tkW isT
  by_cases h:w.text=t
  ·have := am0 (qM hw) (by rw [h]; exact ht)
   simp [h,this]
  ·simp [h]
theorem be3 {ws:List kJ}:ImO (nT ws) (kv ⟨ws,false⟩):=by
 unfold kv nT
 cases ws with
 | nil =>
  rw [uz]
  exact ⟨_,_,rfl⟩
 | cons w r =>
  rw [sS]
  by_cases hk:w.kind=1
  ·simp [hk,ImO]
  ·simp [hk,ImO]
theorem bf5 (ws:List kJ):∃ x ws',kv ⟨ws,true⟩=some (x,⟨ws',true⟩):=by
 unfold kv
 cases ws with
 | nil=>rw [uz];exact ⟨_,_,rfl⟩
 | cons w r =>
  rw [sS]
  by_cases hk:w.kind=1
  ·exact ⟨w.text,r,by simp [hk]⟩
  ·exact ⟨w.text,r,by simp [hk]⟩
theorem bs7 {ws:List kJ} (hv:vW ws) (hl:ws.length≤1000):ImO (rE ws) (kQ ⟨ws,false⟩ 1):=by
 cases hr:rE ws with
 | some p=>exact sl (af5 hr) hv hl
 | none=>exact (at5 hv hl hr).2
theorem sw (ws:List kJ):∃ ws',kx ⟨ws,true⟩=some ([],⟨ws',true⟩):=by
 obtain ⟨ws',h⟩:=sf ws 3 (mkS [123])
 refine ⟨ws',?_⟩
 rw [kx,h,obS]
 exact ko (ko (lJ rfl) rfl) rfl
end Prg
end Go.Wk
namespace Go.Wk
open Go
namespace Prg
set_option maxRecDepth 10000
noncomputable def pT (k:Nat) (op:Int) (nm:Str) (ws:List kJ):Option (kN × List kJ):=(rE ws).bind λa =>
  if op=4 then (wT (mkS [44]) a.2).bind λq=>(rE q).bind λb=>(wT (mkS [59]) b.2).map λr=>(⟨4,nm,[a.1,b.1],[],[]⟩,r)
  else if op=5 then (pK k a.2).bind λb=>if isT b.2 qG then (pK k b.2.tail).map λc=>(⟨5,nm,[a.1],b.1,c.1⟩,c.2) else some (⟨5,nm,[a.1],b.1,[]⟩,b.2)
  else if op=6 then (pK k a.2).map λb=>(⟨6,nm,[a.1],b.1,[]⟩,b.2)
  else (wT (mkS [59]) a.2).map λr=>(⟨op,nm,[a.1],[],[]⟩,r)
theorem bt1 (k:Nat) (ws:List kJ):pS (k+1) ws=(oW ws).bind λh=>pT k h.1 h.2.1 h.2.2:=by rw [pS];rfl
noncomputable def tlS (list:List kJ) (uB:Int) (uC:Int × Str):Option (kN × k8) :=
 (my (⟨list,uC.1⟩:k8)).bind λuA=>(if decide (uB=5) then (lS (⟨list,uA.2.at_⟩:k8)).bind λuD=>(lN (⟨list,uD.2.at_⟩:k8) (mkS [101,108,115,101])).bind λuK=>(if uK then (kU (⟨list,uD.2.at_⟩:k8) (mkS [101,108,115,101])).bind λuL=>(lS (⟨list,uL.at_⟩:k8)).bind λuE=>some (uE.1,uE.2.at_) else some ([],uD.2.at_):Option ((List kN) × Int)).bind λuF=>some (.inr ((⟨uB,uC.2,([uA.1]:List kK),uD.1,uF.1⟩:kN),(⟨list,uF.2⟩:k8))) else if decide (uB=6) then (lS (⟨list,uA.2.at_⟩:k8)).bind λuG=>some (.inr ((⟨uB,uC.2,([uA.1]:List kK),uG.1,[]⟩:kN),(⟨list,uG.2.at_⟩:k8))) else (if decide (uB=4) then (kU (⟨list,uA.2.at_⟩:k8) (mkS [44])).bind λuM=>(my (⟨list,uM.at_⟩:k8)).bind λuH=>(lD ([uA.1]:List kK) ([uH.1]:List kK)).bind λuN=>some (uH.2.at_,uN) else some (uA.2.at_,([uA.1]:List kK)):Option (Int × (List kK))).bind λuI=>some (.inl (uI.1,uI.2)):Option ((Int × (List kK)) ⊕ (kN × k8))).bind (Sum.elim (λuJ=>(kU (⟨list,uJ.1⟩:k8) (mkS [59])).bind λuO=>some ((⟨uB,uC.2,uJ.2,[],[]⟩:kN),(⟨list,uO.at_⟩:k8))) (λe0=>some e0))
noncomputable def tlI (uA:List kJ × Bool × Int × Str):Option (kN × kM) :=
 (kQ (⟨uA.1,uA.2.1⟩:kM) 1).bind λuD=>(lD ([]:List kK) ([uD.1]:List kK)).bind λuL=>(if decide (uA.2.2.1=4) then (kP uD.2 3 (mkS [44])).bind λuN=>(kQ uN 1).bind λuH=>(lD uL ([uH.1]:List kK)).bind λuO=>some (uH.2.list,uH.2.bad,uO) else some (uD.2.list,uD.2.bad,uL):Option ((List kJ) × Bool × (List kK))).bind λuB=>((if decide (uA.2.2.1=5) then some true else some (decide (uA.2.2.1=6)):Option (Bool)).bind λuP=>(if uP then (kx (⟨uB.1,uB.2.1⟩:kM)).bind λuE=>(if decide (uA.2.2.1=5) then (kV uE.2 4 (mkS [101,108,115,101])).bind λuI=>some (uI.2.list,uI.2.bad,uI.1) else some (uE.2.list,uE.2.bad,false):Option ((List kJ) × Bool × Bool)).bind λuC=>(if uC.2.2 then (kx (⟨uC.1,uC.2.1⟩:kM)).bind λuJ=>some (uJ.1,uJ.2.list,uJ.2.bad) else some ([],uC.1,uC.2.1):Option ((List kN) × (List kJ) × Bool)).bind λuK=>some (uE.1,uK.1,uK.2.1,uK.2.2) else (kP (⟨uB.1,uB.2.1⟩:kM) 3 (mkS [59])).bind λuM=>some ([],[],uM.list,uM.bad):Option ((List kN) × (List kN) × (List kJ) × Bool)).bind λuF=>some (uF.1,uF.2.1,uF.2.2.1,uF.2.2.2):Option ((List kN) × (List kN) × (List kJ) × Bool)).bind λuG=>some ((⟨uA.2.2.1,uA.2.2.2,uB.2.2,uG.1,uG.2.1⟩:kN),(⟨uG.2.2.1,uG.2.2.2⟩:kM))
theorem bx0 {α:Type} (x:α):lD ([]:List α) [x]=some [x]:=nC (by simp)
theorem ab4 {α:Type} (x y:α):lD [x] [y]=some [x,y]:=nC (by simp)
theorem wo (list:List kJ) (op:Int) (nm:Str):∃ x,tlS list op (-1,nm)=some (x,⟨list,-1⟩):=by
 unfold tlS
 rw [ab0,obS]
 dsimp only
 by_cases h5:op=5
 ·rw [if_pos (decide_eq_true h5),wj,obS]
  dsimp only
  rw [bk8]
  exact ⟨_,rfl⟩
 rw [if_neg (show ¬ decide (op=5)=true by simpa using h5)]
 by_cases h6:op=6
 ·rw [if_pos (decide_eq_true h6),wj]
  exact ⟨_,rfl⟩
 rw [if_neg (show ¬ decide (op=6)=true by simpa using h6)]
 by_cases h4:op=4
 ·rw [if_pos (decide_eq_true h4),qY,obS]
  dsimp only
  rw [ab0,obS]
  dsimp only
  rw [ab4]
  simp only [obS,Sum.elim_inl]
  rw [qY]
  exact ⟨_,rfl⟩
 ·rw [if_neg (show ¬ decide (op = 4) = true by simpa using h4)]
  simp only [obS,Sum.elim_inl]
  rw [qY]
  exact ⟨_,rfl⟩
def OkS (k:Nat) (ws:List kJ):Prop:=∀ list (n:Nat),list.length≤1000→vW list→AtW list n ws→SpO list (pK k ws) (lS ⟨list,(n:Int)⟩)
theorem ap7 {k:Nat} {list:List kJ} (hl:list.length≤1000) (hv:vW list) {op:Int} {nm:Str} {n:Nat} {ws:List kJ} (ha:AtW list n ws) (hk:∀ r,nj r ws→OkS k r):SpO list (pT k op nm ws) (tlS list op ((n:Int),nm)):=by
 unfold tlS pT
 have h1:=br9 hl hv ha
 cases hq1:rE ws with
 | none =>
  rw [hq1] at h1
  obtain ⟨e,h1⟩:=h1
  have h2:=wo list op nm
  obtain ⟨x,h2⟩:=h2
  show ∃ x,_
  unfold tlS at h2
  rw [ab0,obS] at h2
  dsimp only at h1 h2 ⊢
  rw [h1,obS]
  dsimp only
  by_cases h5:op=5
  ·rw [if_pos (decide_eq_true h5),wj,obS]
   dsimp only
   rw [bk8]
   exact ⟨_,rfl⟩
  rw [if_neg (show ¬ decide (op=5)=true by simpa using h5)]
  by_cases h6:op=6
  ·rw [if_pos (decide_eq_true h6),wj]
   exact ⟨_,rfl⟩
  rw [if_neg (show ¬ decide (op=6)=true by simpa using h6)]
  by_cases h4:op=4
  ·rw [if_pos (decide_eq_true h4),qY,obS]
   dsimp only
   rw [ab0,obS]
   dsimp only
   rw [ab4]
   simp only [obS,Sum.elim_inl]
   rw [qY]
   exact ⟨_,rfl⟩
  ·rw [if_neg (show ¬ decide (op = 4) = true by simpa using h4)]
   simp only [obS,Sum.elim_inl]
   rw [qY]
   exact ⟨_,rfl⟩
 | some a =>
  obtain ⟨e,q⟩:=a
  rw [hq1] at h1
  obtain ⟨m,a1,h1⟩:=h1
  have su:=zO hq1
  dsimp only at h1 a1 ⊢
  rw [h1,obS,obS]
  dsimp only
  by_cases h4:op=4
  ·rw [if_pos h4, if_neg (show ¬ decide (op = 5) = true by simp [h4]), if_neg (show ¬ decide (op = 6) = true by simp [h4]), if_pos (decide_eq_true h4)]
   have h2:=ug hl a1 (mkS [44])
   cases hq2:wT (mkS [44]) q with
   | none =>
    rw [hq2] at h2
    rw [show kU ⟨list,(m:Int)⟩ (mkS [44])=some ⟨list,-1⟩ from h2,obS]
    dsimp only
    rw [ab0,obS]
    dsimp only
    rw [ab4]
    simp only [obS,Sum.elim_inl,Option.bind_none]
    rw [qY]
    exact ⟨_,rfl⟩
   | some q2 =>
    rw [hq2] at h2
    obtain ⟨m2,a2,h2⟩:=h2
    rw [h2,obS,obS]
    dsimp only
    have h3:=br9 hl hv a2
    cases hq3:rE q2 with
    | none =>
     rw [hq3] at h3
     obtain ⟨e2,h3⟩:=h3
     rw [h3,obS]
     dsimp only
     rw [ab4]
     simp only [obS,Sum.elim_inl,Option.bind_none]
     rw [qY]
     exact ⟨_,rfl⟩
    | some b =>
     rw [hq3] at h3
     obtain ⟨m3,a3,h3⟩:=h3
     rw [h3,obS,obS]
     dsimp only
     rw [ab4]
     simp only [obS,Sum.elim_inl]
     have h5:=ug hl a3 (mkS [59])
     cases hq4:wT (mkS [59]) b.2 with
     | none =>
      rw [hq4] at h5
      rw [show kU ⟨list,(m3:Int)⟩ (mkS [59])=some ⟨list,-1⟩ from h5]
      exact ⟨_,rfl⟩
     | some q4 =>
      rw [hq4] at h5
      obtain ⟨m4,a4,h5⟩:=h5
      rw [h5]
      exact ⟨m4,a4,by rw [h4];rfl⟩
  rw [if_neg h4]
  by_cases h5:op=5
  ·rw [if_pos h5,if_pos (decide_eq_true h5)]
   have h2:=hk q su list m hl hv a1
   cases hq2:pK k q with
   | none =>
    rw [hq2] at h2
    obtain ⟨b,h2⟩:=h2
    rw [h2,obS]
    dsimp only
    rw [bk8]
    exact ⟨_,rfl⟩
   | some b =>
    rw [hq2] at h2
    obtain ⟨m2,a2,h2⟩:=h2
    have su2:=(xH k).2.1 _ _ _ hq2
    rw [h2,obS,obS]
    dsimp only
    rw [sIs a2,obS]
    show SpO list (if isT b.2 (mkS [101,108,115,101])=true then _ else _) _
    cases ht:isT b.2 (mkS [101,108,115,101]) with
    | false =>
     simp only [Bool.false_eq_true,if_false,obS,Sum.elim_inr]
     exact ⟨m2,a2,by rw [h5]⟩
    | true =>
     simp only [if_true]
     have h3:=ug hl a2 (mkS [101,108,115,101])
     have hw:wT (mkS [101,108,115,101]) b.2=some b.2.tail:=by unfold wT;rw [ht];rfl
     rw [hw] at h3
     obtain ⟨m3,a3,h3⟩:=h3
     rw [h3,obS]
     dsimp only
     have su3:=o4 hw
     have h6:=hk b.2.tail (nj.trans su3.le (nj.trans su2.le su)) list m3 hl hv a3
     cases hq3:pK k b.2.tail with
     | none =>
      rw [hq3] at h6
      obtain ⟨c,h6⟩:=h6
      rw [h6]
      exact ⟨_,rfl⟩
     | some c =>
      rw [hq3] at h6
      obtain ⟨m4,a4,h6⟩:=h6
      rw [h6]
      exact ⟨m4,a4,by rw [h5];rfl⟩
  rw [if_neg h5,if_neg (show ¬ decide (op=5)=true by simpa using h5)]
  by_cases h6:op=6
  ·rw [if_pos h6,if_pos (decide_eq_true h6)]
   have h2:=hk q su list m hl hv a1
   cases hq2:pK k q with
   | none =>
    rw [hq2] at h2
    obtain ⟨b,h2⟩:=h2
    rw [h2]
    exact ⟨_,rfl⟩
   | some b =>
    rw [hq2] at h2
    obtain ⟨m2,a2,h2⟩:=h2
    rw [h2]
    exact ⟨m2,a2,by rw [h6];rfl⟩
  rw [if_neg h6,if_neg (show ¬ decide (op=6)=true by simpa using h6),if_neg (show ¬ decide (op=4)=true by simpa using h4)]
  simp only [obS,Sum.elim_inl]
  have h2:=ug hl a1 (mkS [59])
  cases hq2:wT (mkS [59]) q with
  | none =>
   rw [hq2] at h2
   rw [show kU ⟨list,(m:Int)⟩ (mkS [59])=some ⟨list,-1⟩ from h2]
   exact ⟨_,rfl⟩
  | some q2 =>
   rw [hq2] at h2
   obtain ⟨m2,a2,h2⟩:=h2
   rw [h2]
   exact ⟨m2,a2,rfl⟩
theorem bf4 {k:Nat} {list:List kJ} (hl:list.length≤1000) (hv:vW list) {n:Nat} {ws:List kJ} (ha:AtW list n ws) (hk:∀ r,nj r ws→OkS k r):SpO list (pS (k+1) ws) (mU ⟨list,(n:Int)⟩):=by
 rw [mU,bt1]
 have hle:=ha.2
 dsimp only
 cases ws with
 | nil =>
  have:=ag7 ha
  rw [if_pos (by simp;omega)]
  exact ⟨_,rfl⟩
 | cons w r =>
  obtain ⟨h1,h2,h3⟩:=mu ha
  rw [if_neg (by simp;omega),h2,obS,bl7,obS,obS]
  have hsr:nj r (w::r):=qn w r
  by_cases h0:opK w.text=0
  ·rw [h0]
   simp only [if_true,ne_eq,not_true_eq_false,decide_false,Bool.false_eq_true,if_false,obS,show decide ((2:Int)=1)=false from rfl,decide_true]
   have h4:=av2 hl ha
   by_cases hw:w.kind=1
   ·have hn : nT (w :: r) = some (w.text, r) := by simp [nT, hw]
    rw [hn] at h4
    obtain ⟨m,a1,h4⟩:=h4
    rw [h4,obS]
    dsimp only at a1 ⊢
    have h5:=ug hl a1 (mkS [61])
    cases hq:wT (mkS [61]) r with
    | none =>
     rw [hq] at h5
     have hh:oW (w::r)=none:=by simp [oW,h0,hw,hq]
     rw [show kU ⟨list,(m:Int)⟩ (mkS [61])=some ⟨list,-1⟩ from h5,hh]
     exact wo list 2 w.text
    | some q =>
     rw [hq] at h5
     obtain ⟨m2,a2,h5⟩:=h5
     have hh:oW (w::r)=some (2,w.text,q):=by simp [oW,h0,hw,hq]
     rw [h5,hh]
     exact ap7 hl hv a2 λx hx=>hk x (nj.trans hx.le (nj.trans (o4 hq).le hsr))
   ·have hn : nT (w :: r) = none := by simp [nT, hw]
    rw [hn] at h4
    obtain ⟨x,h4⟩:=h4
    have hh:oW (w::r)=none:=by simp [oW,h0,hw]
    rw [h4,obS]
    dsimp only
    rw [qY,hh]
    exact wo list 2 x
  ·by_cases hl1:opK w.text=1
   ·rw [hl1]
    simp only [show ((1:Int)=0)=False from by simp,if_false,ne_eq,show ((1:Int)=2)=False from by simp,not_false_eq_true,decide_true,if_true,obS]
    rw [we (by omega)]
    have h4:=av2 hl h3
    cases hn:nT r with
    | none =>
     rw [hn] at h4
     obtain ⟨x,h4⟩:=h4
     have hh:oW (w::r)=none:=by simp [oW,hl1,hn]
     rw [h4,obS]
     dsimp only
     rw [qY,hh]
     exact wo list 1 x
    | some p =>
     rw [hn] at h4
     obtain ⟨m,a1,h4⟩:=h4
     rw [h4,obS]
     dsimp only
     have h5:=ug hl a1 (mkS [61])
     cases hq:wT (mkS [61]) p.2 with
     | none =>
      rw [hq] at h5
      have hh:oW (w::r)=none:=by simp [oW,hl1,hn,hq]
      rw [show kU ⟨list,(m:Int)⟩ (mkS [61])=some ⟨list,-1⟩ from h5,hh]
      exact wo list 1 p.1
     | some q =>
      rw [hq] at h5
      obtain ⟨m2,a2,h5⟩:=h5
      have hh:oW (w::r)=some (1,p.1,q):=by simp [oW,hl1,hn,hq]
      rw [h5,hh]
      exact ap7 hl hv a2 λx hx=>hk x (nj.trans hx.le (nj.trans ((o4 hq).le.trans (tx (n:=p.1) (q:=p.2) hn).le) hsr))
   ·have h2':opK w.text≠2:=by
     have:=ad6 w.text
     omega
    have hh:oW (w::r)=some (opK w.text,mkS [],r):=by simp [oW,h0,hl1]
    rw [if_neg h0,if_pos (by simpa using h2'),obS,if_neg (by simpa using hl1),obS,if_neg (by simpa using h2'),we (by omega),hh]
    exact ap7 hl hv h3 λx hx=>hk x (nj.trans hx.le hsr)
end Prg
end Go.Wk
namespace Go.Wk
open Go
namespace Prg
set_option maxRecDepth 10000
theorem zC (ws:List kJ) (op:Int) (nm:Str):∃ x ws',tlI (ws,true,op,nm)=some (x,⟨ws',true⟩):=by
 unfold tlI
 obtain ⟨e,ws1,h1⟩:=vi 1 (by omega) ws
 dsimp only
 rw [h1,obS,bx0,obS]
 dsimp only
 by_cases h4:op=4
 ·obtain ⟨ws2,h2⟩:=sf ws1 3 (mkS [44])
  obtain ⟨e2,ws3,h3⟩:=vi 1 (by omega) ws2
  obtain ⟨ws4,h5⟩:=sf ws3 3 (mkS [59])
  rw [if_pos (decide_eq_true h4),h2,obS,h3,obS,ab4]
  simp only [obS]
  rw [if_neg (show ¬ decide (op=5)=true by simp [h4])]
  simp only [obS]
  rw [if_neg (show ¬ decide (op=6)=true by simp [h4]),h5]
  exact ⟨_,_,rfl⟩
 rw [if_neg (show ¬ decide (op=4)=true by simpa using h4)]
 simp only [obS]
 by_cases h5:op=5
 ·obtain ⟨ws2,h2⟩:=sw ws1
  rw [if_pos (decide_eq_true h5)]
  simp only [obS,if_true]
  rw [h2,obS,if_pos (decide_eq_true h5)]
  dsimp only
  rw [pn,obS,obS]
  dsimp only
  cases tkW ws2 4 (mkS [101,108,115,101]) with
  | false=>exact ⟨_,_,rfl⟩
  | true =>
   obtain ⟨ws3,h3⟩:=sw ws2.tail
   simp only [if_true]
   rw [h3]
   exact ⟨_,_,rfl⟩
 rw [if_neg (show ¬ decide (op=5)=true by simpa using h5)]
 simp only [obS]
 by_cases h6:op=6
 ·obtain ⟨ws2,h2⟩:=sw ws1
  rw [if_pos (decide_eq_true h6)]
  rw [h2,obS,if_neg (show ¬ decide (op=5)=true by simpa using h5)]
  exact ⟨_,_,rfl⟩
 ·obtain ⟨ws2,h2⟩:=sf ws1 3 (mkS [59])
  rw [if_neg (show ¬ decide (op=6)=true by simpa using h6),h2]
  exact ⟨_,_,rfl⟩
def OkI (k:Nat) (ws:List kJ):Prop:=ImO (pK k ws) (kx ⟨ws,false⟩)
theorem an8 {k:Nat} {op:Int} {nm:Str} {ws:List kJ} (hv:vW ws) (hl:ws.length≤1000) (hk:∀ r,nj r ws→OkI k r):ImO (pT k op nm ws) (tlI (ws,false,op,nm)):=by
 unfold tlI pT
 have h1:=bs7 hv hl
 cases hq1:rE ws with
 | none =>
  rw [hq1] at h1
  obtain ⟨e,ws1,h1⟩:=h1
  have hb:=zC ws1 op nm
  show ∃ x ws',_
  dsimp only
  rw [h1,obS,bx0,obS]
  dsimp only
  by_cases h4:op=4
  ·obtain ⟨ws2,h2⟩:=sf ws1 3 (mkS [44])
   obtain ⟨e2,ws3,h3⟩:=vi 1 (by omega) ws2
   obtain ⟨ws4,h5⟩:=sf ws3 3 (mkS [59])
   rw [if_pos (decide_eq_true h4),h2,obS,h3,obS,ab4]
   simp only [obS]
   rw [if_neg (show ¬ decide (op=5)=true by simp [h4])]
   simp only [obS]
   rw [if_neg (show ¬ decide (op=6)=true by simp [h4]),h5]
   exact ⟨_,_,rfl⟩
  rw [if_neg (show ¬ decide (op=4)=true by simpa using h4)]
  simp only [obS]
  by_cases h5:op=5
  ·obtain ⟨ws2,h2⟩:=sw ws1
   rw [if_pos (decide_eq_true h5)]
   simp only [obS,if_true]
   rw [h2,obS,if_pos (decide_eq_true h5)]
   dsimp only
   rw [pn,obS,obS]
   dsimp only
   cases tkW ws2 4 (mkS [101,108,115,101]) with
   | false=>exact ⟨_,_,rfl⟩
   | true =>
    obtain ⟨ws3,h3⟩:=sw ws2.tail
    simp only [if_true]
    rw [h3]
    exact ⟨_,_,rfl⟩
  rw [if_neg (show ¬ decide (op=5)=true by simpa using h5)]
  simp only [obS]
  by_cases h6:op=6
  ·obtain ⟨ws2,h2⟩:=sw ws1
   rw [if_pos (decide_eq_true h6)]
   rw [h2,obS,if_neg (show ¬ decide (op=5)=true by simpa using h5)]
   exact ⟨_,_,rfl⟩
  ·obtain ⟨ws2,h2⟩:=sf ws1 3 (mkS [59])
   rw [if_neg (show ¬ decide (op=6)=true by simpa using h6),h2]
   exact ⟨_,_,rfl⟩
 | some a =>
  obtain ⟨e,q⟩:=a
  rw [hq1] at h1
  have su:=zO hq1
  have hvq:=su.le.vW hv
  replace h1:kQ ⟨ws,false⟩ 1=some (e,⟨q,false⟩):=h1
  dsimp only
  rw [h1,obS,obS,bx0,obS]
  dsimp only
  by_cases h4:op=4
  ·rw [if_pos h4,if_pos (decide_eq_true h4)]
   have h2:=y3 hvq (t:=mkS [44]) rfl (by decide)
   cases hq2:wT (mkS [44]) q with
   | none =>
    rw [hq2] at h2
    obtain ⟨ws2,h2⟩:=h2
    obtain ⟨e2,ws3,h3⟩:=vi 1 (by omega) ws2
    obtain ⟨ws4,h5⟩:=sf ws3 3 (mkS [59])
    rw [h2,obS,h3,obS,ab4]
    simp only [obS,Option.bind_none]
    rw [if_neg (show ¬ decide (op=5)=true by simp [h4])]
    simp only [obS]
    rw [if_neg (show ¬ decide (op=6)=true by simp [h4]),h5]
    exact ⟨_,_,rfl⟩
   | some q2 =>
    rw [hq2] at h2
    have su2:=o4 hq2
    have hv2:=su2.le.vW hvq
    replace h2:kP ⟨q,false⟩ 3 (mkS [44])=some ⟨q2,false⟩:=h2
    rw [h2,obS,obS]
    have h3:=bs7 hv2 (by have:=su.1;have:=su2.1;omega)
    cases hq3:rE q2 with
    | none =>
     rw [hq3] at h3
     obtain ⟨e2,ws3,h3⟩:=h3
     obtain ⟨ws4,h5⟩:=sf ws3 3 (mkS [59])
     rw [h3,obS,ab4]
     simp only [obS,Option.bind_none]
     rw [if_neg (show ¬ decide (op=5)=true by simp [h4])]
     simp only [obS]
     rw [if_neg (show ¬ decide (op=6)=true by simp [h4]),h5]
     exact ⟨_,_,rfl⟩
    | some b =>
     obtain ⟨e2,q3⟩:=b
     rw [hq3] at h3
     have su3:=zO hq3
     have hv3:=su3.le.vW hv2
     replace h3:kQ ⟨q2,false⟩ 1=some (e2,⟨q3,false⟩):=h3
     rw [h3,obS,obS,ab4]
     simp only [obS]
     rw [if_neg (show ¬ decide (op=5)=true by simp [h4])]
     simp only [obS]
     rw [if_neg (show ¬ decide (op=6)=true by simp [h4])]
     have h5:=y3 hv3 (t:=mkS [59]) rfl (by decide)
     cases hq4:wT (mkS [59]) q3 with
     | none =>
      rw [hq4] at h5
      obtain ⟨ws5,h5⟩:=h5
      rw [h5]
      exact ⟨_,_,rfl⟩
     | some q4 =>
      rw [hq4] at h5
      replace h5:kP ⟨q3,false⟩ 3 (mkS [59])=some ⟨q4,false⟩:=h5
      rw [h5,h4]
      rfl
  rw [if_neg h4,if_neg (show ¬ decide (op=4)=true by simpa using h4)]
  simp only [obS]
  by_cases h5:op=5
  ·rw [if_pos h5,if_pos (decide_eq_true h5)]
   simp only [obS,if_true]
   have h2:=hk q su
   unfold OkI at h2
   cases hq2:pK k q with
   | none =>
    rw [hq2] at h2
    obtain ⟨b,ws2,h2⟩:=h2
    rw [h2,obS,if_pos (decide_eq_true h5)]
    dsimp only
    rw [pn,obS,obS]
    dsimp only
    cases tkW ws2 4 (mkS [101,108,115,101]) with
    | false=>exact ⟨_,_,rfl⟩
    | true =>
     obtain ⟨ws3,h3⟩:=sw ws2.tail
     simp only [if_true]
     rw [h3]
     exact ⟨_,_,rfl⟩
   | some b =>
    obtain ⟨b,q2⟩:=b
    rw [hq2] at h2
    have su2:=(xH k).2.1 _ _ _ hq2
    have hv2:=su2.le.vW hvq
    replace h2:kx ⟨q,false⟩=some (b,⟨q2,false⟩):=h2
    rw [h2,obS,obS,if_pos (decide_eq_true h5)]
    dsimp only
    rw [pn,obS,obS]
    dsimp only
    rw [bd1 hv2 (t:=mkS [101,108,115,101]) (by decide)]
    show ImO (if isT q2 (mkS [101,108,115,101])=true then _ else _) _
    cases ht:isT q2 (mkS [101,108,115,101]) with
    | false =>
     simp only [Bool.false_eq_true,if_false,obS]
     rw [h5]
     rfl
    | true =>
     have hw:wT (mkS [101,108,115,101]) q2=some q2.tail:=by unfold wT;rw [ht];rfl
     have su3:=o4 hw
     have h6:=hk q2.tail (nj.trans su3.le (nj.trans su2.le su))
     unfold OkI at h6
     simp only [if_true]
     cases hq3:pK k q2.tail with
     | none =>
      rw [hq3] at h6
      obtain ⟨c,ws3,h6⟩:=h6
      rw [h6]
      exact ⟨_,_,rfl⟩
     | some c =>
      rw [hq3] at h6
      replace h6:kx ⟨q2.tail,false⟩=some (c.1,⟨c.2,false⟩):=h6
      rw [h6,h5]
      rfl
  rw [if_neg h5,if_neg (show ¬ decide (op=5)=true by simpa using h5)]
  simp only [obS]
  by_cases h6:op=6
  ·rw [if_pos h6,if_pos (decide_eq_true h6)]
   have h2:=hk q su
   unfold OkI at h2
   cases hq2:pK k q with
   | none =>
    rw [hq2] at h2
    obtain ⟨b,ws2,h2⟩:=h2
    rw [h2,obS,if_neg (show ¬ decide (op=5)=true by simpa using h5)]
    exact ⟨_,_,rfl⟩
   | some b =>
    obtain ⟨b,q2⟩:=b
    rw [hq2] at h2
    replace h2:kx ⟨q,false⟩=some (b,⟨q2,false⟩):=h2
    rw [h2,obS,if_neg (show ¬ decide (op=5)=true by simpa using h5),h6]
    rfl
  rw [if_neg h6,if_neg (show ¬ decide (op=6)=true by simpa using h6)]
  have h2:=y3 hvq (t:=mkS [59]) rfl (by decide)
  cases hq2:wT (mkS [59]) q with
  | none =>
   rw [hq2] at h2
   obtain ⟨ws2,h2⟩:=h2
   rw [h2]
   exact ⟨_,_,rfl⟩
  | some q2 =>
   rw [hq2] at h2
   replace h2:kP ⟨q,false⟩ 3 (mkS [59])=some ⟨q2,false⟩:=h2
   rw [h2]
   rfl
theorem bc9 (ws : List kJ) (b : Bool) : l8 ⟨ws, b⟩ = (ku ⟨ws, b⟩).bind fun r => (if decide (r.1.kind = 4) then some (decide (0 < opK r.1.text)) else some false : Option Bool).bind fun s => Option.bind (if s then (if decide (opK r.1.text = 1) then (kv r.2).bind fun p => (kP p.2 3 (mkS [61])).bind fun q => some (q.list, q.bad, p.1) else some (r.2.list, r.2.bad, mkS []) : Option (List kJ × Bool × Str)).bind fun u => some (.inl (u.1, u.2.1, opK r.1.text, u.2.2))
  else if decide (r.1.kind=1) then (kP r.2 3 (mkS [61])).bind λq=>some (.inl (q.list,q.bad,2,r.1.text)) else some (.inr ((⟨2,r.1.text,[],[],[]⟩:kN),(⟨r.2.list,true⟩:kM))):Option ((List kJ × Bool × Int × Str) ⊕ (kN × kM))) (Sum.elim tlI some):=by
 rw [l8]
 simp only [bf9]
 refine congrArg (Option.bind _) (funext λr=>?_)
 cases (if decide (r.1.kind=4) then some (decide (0<opK r.1.text)) else some false:Option Bool) with
 | none=>rfl
 | some s =>
  simp only [obS]
  cases (if s = true then (if decide (opK r.1.text = 1) then (kv r.2).bind fun p => (kP p.2 3 (mkS [61])).bind fun q => some (q.list, q.bad, p.1) else some (r.2.list, r.2.bad, mkS []) : Option (List kJ × Bool × Str)).bind fun u => some (.inl (u.1, u.2.1, opK r.1.text, u.2.2))
   else if decide (r.1.kind=1) then (kP r.2 3 (mkS [61])).bind λq=>some (.inl (q.list,q.bad,2,r.1.text)) else some (.inr ((⟨2,r.1.text,[],[],[]⟩:kN),(⟨r.2.list,true⟩:kM))):Option ((List kJ × Bool × Int × Str) ⊕ (kN × kM))) with
  | none=>rfl
  | some z=>cases z<;>rfl
theorem bj0 {k:Nat} {ws:List kJ} (hv:vW ws) (hl:ws.length≤1000) (hk:∀ r,nj r ws→OkI k r):ImO (pS (k+1) ws) (l8 ⟨ws,false⟩):=by
 rw [bc9,bt1]
 cases ws with
 | nil =>
  rw [uz]
  exact ⟨_,_,rfl⟩
 | cons w r =>
  have hsr:nj r (w::r):=qn w r
  have hvr:=hsr.le.vW hv
  have hlr:r.length≤1000:=by have:=hsr.1;omega
  rw [sS,obS]
  dsimp only
  by_cases h0:opK w.text=0
  ·have e1:(if decide (w.kind=4)=true then some (decide (0<opK w.text)) else some false:Option Bool)=some false:=by
    rw [h0];cases decide (w.kind=4)<;>rfl
   rw [e1,obS]
   simp only [Bool.false_eq_true,if_false]
   by_cases hw:w.kind=1
   ·rw [if_pos (decide_eq_true hw)]
    have h5:=y3 hvr (t:=mkS [61]) rfl (by decide)
    cases hq:wT (mkS [61]) r with
    | none =>
     rw [hq] at h5
     obtain ⟨ws2,h5⟩:=h5
     have hh:oW (w::r)=none:=by simp [oW,h0,hw,hq]
     rw [h5,hh]
     exact zC ws2 2 w.text
    | some q =>
     rw [hq] at h5
     replace h5:kP ⟨r,false⟩ 3 (mkS [61])=some ⟨q,false⟩:=h5
     have hh:oW (w::r)=some (2,w.text,q):=by simp [oW,h0,hw,hq]
     have su:=o4 hq
     rw [h5,hh]
     exact an8 (ws:=q) (su.le.vW hvr) (by have:=su.1;omega) λx hx=>hk x (nj.trans hx.le (nj.trans su.le hsr))
   ·have hh : oW (w :: r) = none := by simp [oW, h0, hw]
    rw [if_neg (show ¬ decide (w.kind=1)=true by simpa using hw),hh]
    exact ⟨_,_,rfl⟩
  ·have hk4:w.kind=4:=am0 (qM hv) (bn8 h0)
   have hpos:0<opK w.text:=by have:=ad6 w.text;omega
   rw [if_pos (decide_eq_true hk4),obS,if_pos (decide_eq_true hpos)]
   by_cases hl1:opK w.text=1
   ·rw [if_pos (decide_eq_true hl1)]
    have h4:=be3 (ws:=r)
    cases hn:nT r with
    | none =>
     rw [hn] at h4
     obtain ⟨x,ws2,h4⟩:=h4
     obtain ⟨ws3,h5⟩:=sf ws2 3 (mkS [61])
     have hh:oW (w::r)=none:=by simp [oW,hl1,hn]
     rw [h4,obS,h5,hh]
     exact zC ws3 _ x
    | some p =>
     obtain ⟨x,p⟩:=p
     rw [hn] at h4
     have su1:=tx hn
     have hvp:=su1.le.vW hvr
     replace h4:kv ⟨r,false⟩=some (x,⟨p,false⟩):=h4
     rw [h4,obS]
     dsimp only
     have h5:=y3 hvp (t:=mkS [61]) rfl (by decide)
     cases hq:wT (mkS [61]) p with
     | none =>
      rw [hq] at h5
      obtain ⟨ws2,h5⟩:=h5
      have hh:oW (w::r)=none:=by simp [oW,hl1,hn,hq]
      rw [h5,hh]
      exact zC ws2 _ x
     | some q =>
      rw [hq] at h5
      replace h5:kP ⟨p,false⟩ 3 (mkS [61])=some ⟨q,false⟩:=h5
      have hh:oW (w::r)=some (1,x,q):=by simp [oW,hl1,hn,hq]
      have su:=o4 hq
      rw [h5,hh,hl1]
      exact an8 (ws:=q) (su.le.vW hvp) (by have:=su.1;have:=su1.1;omega) λy hy=>hk y (nj.trans hy.le (nj.trans (su.le.trans su1.le) hsr))
   ·have hh : oW (w :: r) = some (opK w.text, mkS [], r) := by simp [oW, h0, hl1]
    rw [if_neg (show ¬ decide (opK w.text=1)=true by simpa using hl1),hh]
    exact an8 (ws:=r) hvr hlr λx hx=>hk x (nj.trans hx.le hsr)
theorem sim:∀ k:Nat,(∀ ws,2*ws.length+2≤k→vW ws→ws.length≤1000→OkS k ws∧OkI k ws) ∧
  (∀ acc ws,2*ws.length+3≤k→vW ws→acc.length+ws.length≤1000 →
   (∀ (r0:k8) (n:Nat),r0.list.length≤1000→vW r0.list→AtW r0.list n ws→match pB k acc ws with
    | some p=>∃ (m:Nat) (w:kJ),AtW r0.list m (w::p.2)∧w.text=mkS [125]∧lH (λ(uA:Int × (List kN))=>((if decide (0≤uA.1) then (lN (⟨r0.list,uA.1⟩:k8) (mkS [125])).bind λuD=>some (!(uD)) else some false:Option (Bool)).bind λuB=>if uB then (mU (⟨r0.list,uA.1⟩:k8)).bind λuC=>(lD uA.2 ([uC.1]:List kN)).bind λuE=>some (.inl (uC.2.at_,uE)) else some (.inr (uA.1,uA.2)):Option ((Int × (List kN)) ⊕ (Int × (List kN))))) ((n:Int),acc)=some ((m:Int),p.1)
    | none=>∃ acc',lH (λ(uA:Int × (List kN))=>((if decide (0≤uA.1) then (lN (⟨r0.list,uA.1⟩:k8) (mkS [125])).bind λuD=>some (!(uD)) else some false:Option (Bool)).bind λuB=>if uB then (mU (⟨r0.list,uA.1⟩:k8)).bind λuC=>(lD uA.2 ([uC.1]:List kN)).bind λuE=>some (.inl (uC.2.at_,uE)) else some (.inr (uA.1,uA.2)):Option ((Int × (List kN)) ⊕ (Int × (List kN))))) ((n:Int),acc)=some (-1,acc')) ∧
   (match pB k acc ws with
    | some p=>lH (λ(uA:(List kJ) × Bool × (List kN))=>((if !(uA.2.1) then (kV (⟨uA.1,uA.2.1⟩:kM) 3 (mkS [125])).bind λuD=>some (uD.2.list,uD.2.bad,!(uD.1)) else some (uA.1,uA.2.1,false):Option ((List kJ) × Bool × Bool)).bind λuB=>if uB.2.2 then (l8 (⟨uB.1,uB.2.1⟩:kM)).bind λuC=>(lD uA.2.2 ([uC.1]:List kN)).bind λuE=>some (.inl (uC.2.list,uC.2.bad,uE)) else some (.inr (uA.2.2,uB.1,uB.2.1)):Option (((List kJ) × Bool × (List kN)) ⊕ ((List kN) × (List kJ) × Bool)))) (ws,false,acc)=some (p.1,p.2,false)
    | none=>∃ acc' ws',lH (λ(uA:(List kJ) × Bool × (List kN))=>((if !(uA.2.1) then (kV (⟨uA.1,uA.2.1⟩:kM) 3 (mkS [125])).bind λuD=>some (uD.2.list,uD.2.bad,!(uD.1)) else some (uA.1,uA.2.1,false):Option ((List kJ) × Bool × Bool)).bind λuB=>if uB.2.2 then (l8 (⟨uB.1,uB.2.1⟩:kM)).bind λuC=>(lD uA.2.2 ([uC.1]:List kN)).bind λuE=>some (.inl (uC.2.list,uC.2.bad,uE)) else some (.inr (uA.2.2,uB.1,uB.2.1)):Option (((List kJ) × Bool × (List kN)) ⊕ ((List kN) × (List kJ) × Bool)))) (ws,false,acc)=some (acc',ws',true))) ∧
  (∀ ws,2*ws.length+2≤k→vW ws→ws.length≤1000→(∀ list (n:Nat),list.length≤1000→vW list→AtW list n ws→SpO list (pS k ws) (mU ⟨list,(n:Int)⟩))∧ImO (pS k ws) (l8 ⟨ws,false⟩)):=by
 intro k
 induction k with
 | zero=>exact ⟨λws h=>by omega,λacc ws h=>by omega,λws h=>by omega⟩
 | succ k ih =>
  obtain ⟨ihK,ihB,ihS⟩:=ih
  refine ⟨λws hk hv hl=>⟨λlist n hll hvl ha=>?_,?_⟩,λacc ws hk hv hl=>⟨λr0 n hll hvl ha=>?_,?_⟩,λws hk hv hl=>⟨λlist n hll hvl ha=>?_,?_⟩⟩
  ·
   rw [lS,pK]
   have h1:=ug hll ha (mkS [123])
   cases hq:wT (mkS [123]) ws with
   | none =>
    rw [hq] at h1
    rw [show kU ⟨list,(n:Int)⟩ (mkS [123])=some ⟨list,-1⟩ from h1,obS]
    refine ⟨[],ko (ko (lJ rfl) rfl) ?_⟩
    rw [qY];rfl
   | some q =>
    rw [hq] at h1
    obtain ⟨m,a1,h1⟩:=h1
    have su:=o4 hq
    have h2:=(ihB [] q (by have:=su.1;omega) (su.le.vW hv) (by have:=su.1;simp;omega)).1 ⟨list,(n:Int)⟩ m hll hvl a1
    rw [h1,obS,obS]
    cases hb:pB k [] q with
    | none =>
     rw [hb] at h2
     obtain ⟨acc',h2⟩:=h2
     refine ⟨acc',ko (ko h2 rfl) ?_⟩
     dsimp only
     rw [qY];rfl
    | some p =>
     rw [hb] at h2
     obtain ⟨m2,w,a2,hw,h2⟩:=h2
     have h3:=ug hll a2 (mkS [125])
     have hw2:wT (mkS [125]) (w::p.2)=some p.2:=by simp [wT,isT,hw]
     rw [hw2] at h3
     obtain ⟨m3,a3,h3⟩:=h3
     refine ⟨m3,a3,ko (ko h2 rfl) ?_⟩
     dsimp only
     rw [h3];rfl
  ·
   unfold OkI
   rw [kx,pK]
   have h1:=y3 hv (t:=mkS [123]) rfl (by decide)
   cases hq:wT (mkS [123]) ws with
   | none =>
    rw [hq] at h1
    obtain ⟨ws',h1⟩:=h1
    rw [h1,obS]
    exact ⟨[],ws',ko (ko (lJ rfl) rfl) rfl⟩
   | some q =>
    rw [hq] at h1
    have su:=o4 hq
    replace h1:kP ⟨ws,false⟩ 3 (mkS [123])=some ⟨q,false⟩:=h1
    have h2:=(ihB [] q (by have:=su.1;omega) (su.le.vW hv) (by have:=su.1;simp;omega)).2
    rw [h1,obS,obS]
    cases hb:pB k [] q with
    | none =>
     rw [hb] at h2
     obtain ⟨acc',ws',h2⟩:=h2
     exact ⟨acc',ws',ko (ko h2 rfl) rfl⟩
    | some p =>
     rw [hb] at h2
     exact ko (ko h2 rfl) rfl
  ·
   rw [pB]
   have e0:decide (0≤(n:Int))=true:=by simp
   by_cases ht:isT ws (mkS [125])=true
   ·rw [if_pos ht]
    cases ws with
    | nil=>cases ht
    | cons w r =>
     refine ⟨n,w,ha,by simpa [isT] using ht,lJ ?_⟩
     dsimp only
     rw [if_pos e0,sIs ha,ht];rfl
   ·have ht : isT ws (mkS [125]) = false := by simpa using ht
    rw [if_neg (by simp [ht])]
    have h1:=(ihS ws (by omega) hv (by omega)).1 r0.list n hll hvl ha
    cases hs:pS k ws with
    | none =>
     rw [hs] at h1
     obtain ⟨s,h1⟩:=h1
     refine ⟨acc++[s],?_⟩
     rw [mQ (s':=(-1,acc++[s]))]
     ·exact lJ rfl
     dsimp only
     rw [if_pos e0,sIs ha,ht]
     simp only [obS,Bool.not_false,if_true]
     rw [h1,obS,nC (show acc.length+[s].length≤2147483648 by simp;omega)];rfl
    | some p =>
     obtain ⟨s,q⟩:=p
     rw [hs] at h1
     obtain ⟨m,a1,h1⟩:=h1
     have su:=(xH k).1 _ _ _ hs
     have h2:=(ihB (acc++[s]) q (by have:=su.1;omega) (su.le.vW hv) (by have:=su.1;simp;omega)).1 r0 m hll hvl a1
     rw [obS]
     dsimp only
     have he:lH (λ(uA:Int × (List kN))=>((if decide (0≤uA.1) then (lN (⟨r0.list,uA.1⟩:k8) (mkS [125])).bind λuD=>some (!(uD)) else some false:Option (Bool)).bind λuB=>if uB then (mU (⟨r0.list,uA.1⟩:k8)).bind λuC=>(lD uA.2 ([uC.1]:List kN)).bind λuE=>some (.inl (uC.2.at_,uE)) else some (.inr (uA.1,uA.2)):Option ((Int × (List kN)) ⊕ (Int × (List kN))))) ((n:Int),acc)=lH (λ(uA:Int × (List kN))=>((if decide (0≤uA.1) then (lN (⟨r0.list,uA.1⟩:k8) (mkS [125])).bind λuD=>some (!(uD)) else some false:Option (Bool)).bind λuB=>if uB then (mU (⟨r0.list,uA.1⟩:k8)).bind λuC=>(lD uA.2 ([uC.1]:List kN)).bind λuE=>some (.inl (uC.2.at_,uE)) else some (.inr (uA.1,uA.2)):Option ((Int × (List kN)) ⊕ (Int × (List kN))))) ((m:Int),acc++[s]):=by
      refine mQ ?_
      dsimp only
      rw [if_pos e0,sIs ha,ht]
      simp only [obS,Bool.not_false,if_true]
      rw [h1,obS,nC (show acc.length+[s].length≤2147483648 by simp;omega)];rfl
     rw [he]
     exact h2
  ·
   rw [pB]
   have htk:=ud hv (t:=mkS [125]) rfl (by decide)
   by_cases ht:isT ws (mkS [125])=true
   ·rw [if_pos ht]
    refine lJ ?_
    dsimp only
    rw [if_pos (show (!false)=true from rfl),pn,htk,ht];rfl
   ·have ht : isT ws (mkS [125]) = false := by simpa using ht
    rw [if_neg (by simp [ht])]
    have h1:=(ihS ws (by omega) hv (by omega)).2
    cases hs:pS k ws with
    | none =>
     rw [hs] at h1
     obtain ⟨s,ws',h1⟩:=h1
     refine ⟨acc++[s],ws',?_⟩
     rw [mQ (s':=(ws',true,acc++[s]))]
     ·exact lJ rfl
     dsimp only
     rw [if_pos (show (!false)=true from rfl),pn,htk,ht]
     simp only [obS,Bool.not_false,if_true,Bool.false_eq_true,if_false]
     rw [h1,obS,nC (show acc.length+[s].length≤2147483648 by simp;omega)];rfl
    | some p =>
     obtain ⟨s,q⟩:=p
     rw [hs] at h1
     have su:=(xH k).1 _ _ _ hs
     have h2:=(ihB (acc++[s]) q (by have:=su.1;omega) (su.le.vW hv) (by have:=su.1;simp;omega)).2
     replace h1:l8 ⟨ws,false⟩=some (s,⟨q,false⟩):=h1
     rw [obS]
     dsimp only
     have he:lH (λ(uA:(List kJ) × Bool × (List kN))=>((if !(uA.2.1) then (kV (⟨uA.1,uA.2.1⟩:kM) 3 (mkS [125])).bind λuD=>some (uD.2.list,uD.2.bad,!(uD.1)) else some (uA.1,uA.2.1,false):Option ((List kJ) × Bool × Bool)).bind λuB=>if uB.2.2 then (l8 (⟨uB.1,uB.2.1⟩:kM)).bind λuC=>(lD uA.2.2 ([uC.1]:List kN)).bind λuE=>some (.inl (uC.2.list,uC.2.bad,uE)) else some (.inr (uA.2.2,uB.1,uB.2.1)):Option (((List kJ) × Bool × (List kN)) ⊕ ((List kN) × (List kJ) × Bool)))) (ws,false,acc)=lH (λ(uA:(List kJ) × Bool × (List kN))=>((if !(uA.2.1) then (kV (⟨uA.1,uA.2.1⟩:kM) 3 (mkS [125])).bind λuD=>some (uD.2.list,uD.2.bad,!(uD.1)) else some (uA.1,uA.2.1,false):Option ((List kJ) × Bool × Bool)).bind λuB=>if uB.2.2 then (l8 (⟨uB.1,uB.2.1⟩:kM)).bind λuC=>(lD uA.2.2 ([uC.1]:List kN)).bind λuE=>some (.inl (uC.2.list,uC.2.bad,uE)) else some (.inr (uA.2.2,uB.1,uB.2.1)):Option (((List kJ) × Bool × (List kN)) ⊕ ((List kN) × (List kJ) × Bool)))) (q,false,acc++[s]):=by
      refine mQ ?_
      dsimp only
      rw [if_pos (show (!false)=true from rfl),pn,htk,ht]
      simp only [obS,Bool.not_false,if_true,Bool.false_eq_true,if_false]
      rw [h1,obS,nC (show acc.length+[s].length≤2147483648 by simp;omega)];rfl
     rw [he]
     exact h2
  ·exact bf4 hll hvl ha λr hr list n g1 g2 g3=>(ihK r (by have:=hr.1;omega) (hr.le.vW hv) (by have:=hr.1;omega)).1 list n g1 g2 g3
  ·exact bj0 hv hl λr hr=>(ihK r (by have:=hr.1;omega) (hr.le.vW hv) (by have:=hr.1;omega)).2
end Prg
end Go.Wk
namespace Go.Wk
open Go
namespace Prg
set_option maxRecDepth 10000
theorem xJ {P:List kN→Prop} (h:∀ l:List kN,(∀ s∈l,P s.body∧P s.else_)→P l):∀ l,P l:=by
 have:∀ (n:Nat) (l:List kN),SizeOf.sizeOf l≤n→P l:=by
  intro n
  induction n with
  | zero=>intro l he;cases l<;>simp at he
  | succ n ih =>
   intro l he
   refine h l λs hs=>?_
   have:=List.sizeOf_lt_of_mem hs
   cases s
   simp at he this ⊢
   exact ⟨ih _ (by omega),ih _ (by omega)⟩
 exact λl=>this _ l (Nat.le_refl _)
mutual
def aw4:kN→Nat
 | ⟨_,_,_,b,e⟩=>1+nI b+nI e
def nI:List kN→Nat
 | []=>0
 | s::l=>aw4 s+nI l
end
theorem qI (s:kN):aw4 s=1+nI s.body+nI s.else_:=by cases s;rw [aw4]
theorem nd (s:kN) (l:List kN):nI (s::l)=aw4 s+nI l:=by rw [nI]
theorem ma:nI []=0:=by rw [nI]
theorem qP:∀ (l r:List kN),nI (l++r)=nI l+nI r
 | [],r=>by rw [ma,List.nil_append,Nat.zero_add]
 | k::l,r=>by rw [List.cons_append,nd,nd,qP l r];omega
def pM:List Fn_→Nat
 | []=>0
 | f::l=>nI f.body+pM l
theorem tN:∀ (l r:List Fn_),pM (l++r)=pM l+pM r
 | [],r=>by simp [pM]
 | k::l,r=>by simp [pM,tN l r];omega
def w8 (op:Int):Nat:=if op=4 then 2 else 1
def hdB (s:kN):Bool:=inB s.op 1 8&&(decide (s.args.length=w8 s.op)&&((if s.op=1∨s.op=2 then lu s.name else decide (s.name=mkS []))&&(s.args.all nJ&&(decide (s.op=8→(s.args[0]?).map (·.op)=some 13)&&(decide (s.else_=[]∨s.op=5)&&decide (s.body=[]∨s.op=5∨s.op=6))))))
def oS:Nat→kN→Bool
 | 0,_=>false
 | d+1,s=>hdB s&&(s.body.all (oS d)&&s.else_.all (oS d))
def fnB (f:Fn_):Bool:=lu f.name&&(decide (f.params.length≤3)&&(f.params.all lu&&f.body.all (oS 4)))
def pE (p:kp):Bool:=inB (p.fns.length:Int) 1 4&&(p.fns.all fnB&&decide (w64 (pM p.fns:Int)≤40))
theorem bj6 (a:Int):w64 (w64 a)=w64 a:=by
 unfold w64;simp only [IntKind.wrap_i64];omega
theorem pv (a b:Int):w64 (w64 a+b)=w64 (a+b):=by
 unfold w64;simp only [IntKind.wrap_i64];omega
theorem zS (a b:Int):w64 (a+w64 b)=w64 (a+b):=by rw [Int.add_comm,pv,Int.add_comm]
theorem bb8:∀ l:List kN,nq l=some (w64 (nI l:Int)):=by
 intro l
 induction l using xJ with
 | h l ih =>
  rw [nq]
  rcases mr (xs:=l) (body:=(λ(uB:Int) (uC:Int)=>((kn l uB).bind λuA=>(nq uA.body).bind λuD=>(nq uA.else_).bind λuE=>some (.inl (w64 ((w64 (uC+uD))+uE))):Option ((Int) ⊕ (Empty))))) (s:=(l.length:Int)) (λp s=>w64 s=w64 ((l.length:Int)+((nI p:Int) - p.length))∧(p=[]→s=l.length)∧(p≠[]→w64 s=s)) (λ_=>False)
   ⟨by rw [ma]; simp, fun _ => rfl, fun h => absurd rfl h⟩ (fun p x r s he ⟨h1, h2, h3⟩ => .inl (by
    obtain ⟨g1,g2⟩:=ih x (by rw [he];simp)
    refine ⟨w64 (w64 (s+w64 (nI x.body:Int))+w64 (nI x.else_:Int)),?_,?_,λh=>absurd h (by simp),λ_=>bj6 _⟩
    ·have hg : kn l (p.length : Int) = some x := by rw [he, mA]
     rw [hg,obS,g1,obS,g2,obS]
    ·rw [bj6,zS,pv,Int.add_right_comm,zS,Int.add_assoc,← pv s,h1,pv,qP,nd,ma,qI]
     congr 1
     simp
     omega)) with ⟨s,h1,h2,h3,h4⟩ | ⟨_,_,h⟩
  ·rw [h1]
   simp only [obS,Sum.elim_inl,osI]
   by_cases h0:l=[]
   ·rw [h3 h0,h0,ma];rfl
   ·rw [← h4 h0,h2];congr 1;omega
  ·exact h.elim
theorem br2 (p:kp):sU p=some (w64 (pM p.fns:Int)):=by
 unfold sU
 rcases mr (xs:=p.fns) (body:=(λ(uA:Int) (uB:Int)=>((kn p.fns uA).bind λuC=>(nq uC.body).bind λuD=>some (.inl (w64 (uB+uD))):Option ((Int) ⊕ (Empty))))) (s:=(0:Int)) (λl s=>s=w64 (pM l:Int)) (λ_=>False) rfl (λl x r s he h=>.inl (by
   refine ⟨w64 (s+w64 (nI x.body:Int)),?_,?_⟩
   ·have hg : kn p.fns (l.length : Int) = some x := by rw [he, mA]
    rw [hg,obS,bb8,obS]
   ·rw [h,zS,pv,tN]
    congr 1)) with ⟨s,h1,h2⟩ | ⟨_,_,h⟩
 ·rw [h1,h2];rfl
 ·exact h.elim
theorem be2 {l:List kK} {X:Type} {e:X}:forN (S:=Unit) (X:=X) (λi _=>(kn l i).bind λx=>(pa x).bind λb=>if !b then some (.inr e) else some (.inl ())) ((l.length:Int) - 0).toNat 0 ()=if l.all nJ then some (.inl ()) else some (.inr e):=by
 rw [qT (xs:=l) (λk=>!nJ k) e (λp x r he=>by rw [he,mA,obS,bg0,obS])]
 have:l.any (λk=>!nJ k)=!l.all nJ:=by rw [List.not_all_eq_any_not]
 rw [this]
 cases l.all nJ<;>rfl
theorem bf7 {l:List kK} {X:Type} {e:X}:forN (S:=Unit) (X:=X) (λi _=>(kn l i).bind λx=>(pb x).bind λb=>if !b then some (.inr e) else some (.inl ())) ((l.length:Int) - 0).toNat 0 ()=if l.all nJ then some (.inl ()) else some (.inr e):=by
 rw [qT (xs:=l) (λk=>!nJ k) e (λp x r he=>by rw [he,mA,obS,bo4,obS])]
 have:l.any (λk=>!nJ k)=!l.all nJ:=by rw [List.not_all_eq_any_not]
 rw [this]
 cases l.all nJ<;>rfl
theorem xl {l:List kN} {d:Int} {p:kN→Bool} (h:∀ s∈l,qS s d=some (p s)):ny l d=some (l.all p):=by
 rw [ny,qT (xs:=l) (body:=(λ(uA:Int) (uD:Unit)=>((kn l uA).bind λuB=>(qS uB d).bind λuC=>if !(uC) then some (.inr false) else some (.inl ()):Option ((Unit) ⊕ (Bool))))) (λk=>!p k) false (λq x r he=>by rw [he,mA,obS,h x (by rw [he];simp),obS])]
 have:l.any (λk=>!p k)=!l.all p:=by rw [List.not_all_eq_any_not]
 rw [this]
 cases l.all p<;>rfl
theorem cb2 {α:Type} {xs:List α} {f:α→Option Bool} {p:α→Bool} (hf:∀ x∈xs,f x=some (p x)):∃ i:Int,((forN (S:=Unit) (X:=Int) (λi _=>(kn xs i).bind λx=>(f x).bind λb=>if b then some (.inr i) else some (.inl ())) ((xs.length:Int) - 0).toNat 0 ()).bind (Sum.elim (λ_=>some (-1)) (λe=>some e)))=some i∧decide (0≤i)=xs.any p:=by
 rcases mr (xs:=xs) (body:=λi _=>(kn xs i).bind λx=>(f x).bind λb=>if b then some (.inr i) else some (.inl ())) (s:=()) (λl _=>l.any p=false) (λ(i:Int)=>0≤i∧xs.any p=true) rfl (λl x r s he h=>by
  have hfx:=hf x (by rw [he];simp)
  rw [he,mA,obS,hfx,obS]
  cases hp:p x with
  | true=>exact .inr ⟨_,rfl,by omega,by simp [hp]⟩
  | false=>exact .inl ⟨(),rfl,by simp [h,hp]⟩) with ⟨s,h1,h2⟩ | ⟨i,h1,h2,h3⟩
 ·exact ⟨-1,by rw [h1];rfl,by rw [h2];rfl⟩
 ·exact ⟨i,by rw [h1];rfl,by rw [h3];simp [h2]⟩
theorem yJ {l:List kN} {n:Int} {p:kN→Bool} (h:∀ s∈l,rK s n=some (p s)):nE l n=some (l.all p):=by
 rw [nE]
 unfold lQ lY
 obtain ⟨i,h1,h2⟩:=cb2 (xs:=l) (f:=λy0=>rQ y0 n) (p:=λs=>!p s) (λs hs=>by rw [rQ,h s hs];rfl)
 rw [h1,obS,obS,h2]
 have:l.any (λk=>!p k)=!l.all p:=by rw [List.not_all_eq_any_not]
 rw [this,Bool.not_not]
theorem ak0:∀ (l:List kN) (d:Nat),d≤4→(∀ s∈l,qS s (d:Int)=some (oS d s)∧rK s (5 - (d:Int))=some (oS d s)):=by
 intro l
 induction l using xJ with
 | h l ih =>
  intro d hd s hs
  cases d with
  | zero =>
   constructor
   ·rw [qS];rfl
   ·rw [rK,oS]
    unfold qB
    by_cases h1:s.op=1<;>by_cases h2:s.op=2<;>by_cases h3:s.op=3<;>by_cases h7:s.op=7<;>by_cases h8:s.op=8<;>by_cases h4:s.op=4<;>by_cases h5:s.op=5<;>by_cases h6:s.op=6<;>first | omega | simp [h1,h2,h3,h4,h5,h6,h7,h8]
  | succ d =>
   obtain ⟨ib,ie⟩:=ih s hs
   have sb:ny s.body (w64 (((d+1:Nat):Int) - 1))=some (s.body.all (oS d)):=by
    rw [lV (by omega) (by omega),show ((d+1:Nat):Int) - 1=(d:Int) by omega]
    exact xl λx hx=>(ib d (by omega) x hx).1
   have se:ny s.else_ (w64 (((d+1:Nat):Int) - 1))=some (s.else_.all (oS d)):=by
    rw [lV (by omega) (by omega),show ((d+1:Nat):Int) - 1=(d:Int) by omega]
    exact xl λx hx=>(ie d (by omega) x hx).1
   have hb:nE s.body (w64 (5 - ((d+1:Nat):Int)+1))=some (s.body.all (oS d)):=by
    rw [lV (by omega) (by omega),show 5 - ((d+1:Nat):Int)+1=5 - (d:Int) by omega]
    exact yJ λx hx=>(ib d (by omega) x hx).2
   have he:nE s.else_ (w64 (5 - ((d+1:Nat):Int)+1))=some (s.else_.all (oS d)):=by
    rw [lV (by omega) (by omega),show 5 - ((d+1:Nat):Int)+1=5 - (d:Int) by omega]
    exact yJ λx hx=>(ie d (by omega) x hx).2
   have c0:decide (((d+1:Nat):Int)<1)=false:=by simp;omega
   have c0':decide ((4:Int)<5 - ((d+1:Nat):Int))=false:=by simp;omega
   have c5:∀ b:Int,decide (0<b)=decide (0<b):=λ_=>rfl
   have eB:decide (0<(s.body.length:Int))=!decide (s.body=[]):=by cases s.body<;>simp
   have eE:decide (0<(s.else_.length:Int))=!decide (s.else_=[]):=by cases s.else_<;>simp
   have hN:s.name=mkS []→lu s.name=false:=λh=>by rw [h];rfl
   have c3:(if decide (decide (s.op=1∨s.op=2)≠lu s.name)=true then some true else if (!decide (s.op=1∨s.op=2))=true then some (decide (s.name≠mkS [])) else some false:Option Bool)=some (!(if s.op=1∨s.op=2 then lu s.name else decide (s.name=mkS []))):=by
    by_cases h:s.op=1∨s.op=2<;>by_cases h2:s.name=mkS []
    ·rw [hN h2];simp [h]
    ·cases lu s.name<;>simp [h]
    ·rw [hN h2];simp [h,h2]
    ·cases lu s.name<;>simp [h,h2]
   have c4:s.args.length=w8 s.op→(if decide (s.op=8)=true then (kn s.args 0).bind λx=>some (decide (x.op≠13)) else some false:Option Bool)=some (!decide (s.op=8→(s.args[0]?).map (·.op)=some 13)):=by
    intro hl
    by_cases h:s.op=8
    ·have h1 : s.args.length = 1 := by rw [hl, h]; rfl
     obtain ⟨a,ha⟩:∃ a,s.args=[a]:=List.length_eq_one_iff.1 h1
     rw [ha]
     simp [h,kn]
    ·simp [h]
   constructor
   ·have c6:(if decide (0<(s.else_.length:Int))=true then if decide (s.op≠5)=true then some true else if decide (0<(s.body.length:Int))=true then some false else some false else if decide (0<(s.body.length:Int))=true then if decide (s.op≠5)=true then some (decide (s.op≠6)) else some false else some false:Option Bool)=some (!(decide (s.else_=[]∨s.op=5)&&decide (s.body=[]∨s.op=5∨s.op=6))):=by
     rw [eB,eE]
     by_cases h1:s.else_=[]<;>by_cases h2:s.body=[]<;>by_cases h3:s.op=5<;>by_cases h4:s.op=6<;>simp [h1,h2,h3,h4]
    rw [qS,oS,c0]
    simp only [zI,uo,obS,sb,se,be2,Bool.false_eq_true,if_false]
    unfold hdB
    cases inB s.op 1 8 with
    | false=>rfl
    | true =>
    have ea:ru s.op=some (w8 s.op:Int):=by
     unfold ru w8
     by_cases h:s.op=4<;>simp [h]
    rw [ea]
    simp only [Bool.not_true,Bool.false_eq_true,if_false,obS,Bool.true_and]
    by_cases hl:s.args.length=w8 s.op
    ·have e1 : decide ((s.args.length : Int) ≠ (w8 s.op : Int)) = false := by simp; omega
     have e2:(if decide (s.op=1)=true then some true else some (decide (s.op=2)):Option Bool)=some (decide (s.op=1∨s.op=2)):=by by_cases h:s.op=1<;>simp [h]
     rw [e1,e2,c4 hl,c6]
     simp only [Bool.false_eq_true,if_false,obS,c3,hl,decide_true,Bool.true_and]
     cases (if s.op=1∨s.op=2 then lu s.name else decide (s.name=mkS [])) with
     | false=>rfl
     | true =>
     cases s.args.all nJ with
     | false=>rfl
     | true =>
     cases decide (s.op=8→(s.args[0]?).map (·.op)=some 13) with
     | false=>rfl
     | true =>
     cases decide (s.else_=[]∨s.op=5) with
     | false=>rfl
     | true =>
     cases decide (s.body=[]∨s.op=5∨s.op=6) with
     | false=>rfl
     | true =>
     cases s.body.all (oS d)<;>cases s.else_.all (oS d)<;>rfl
    ·have e1 : decide ((s.args.length : Int) ≠ (w8 s.op : Int)) = true := by simp; omega
     rw [e1,decide_eq_false hl];rfl
   ·have ea:qB s.op=some (if inB s.op 1 8 then ((w8 s.op:Int),decide (s.op=1∨s.op=2),decide (s.op=5∨s.op=6),decide (s.op=5)) else (-1,false,false,false)):=by
     by_cases h:inB s.op 1 8=true
     ·have:s.op=1∨s.op=2∨s.op=3∨s.op=4∨s.op=5∨s.op=6∨s.op=7∨s.op=8:=by
       unfold inB at h
       simp at h
       omega
      rcases this with h | h | h | h | h | h | h | h<;>rw [h]<;>rfl
     ·have h : inB s.op 1 8 = false := by simpa using h
      rw [h]
      have h':s.op≠1∧s.op≠2∧s.op≠3∧s.op≠4∧s.op≠5∧s.op≠6∧s.op≠7∧s.op≠8:=by
       unfold inB at h
       simp at h
       omega
      unfold qB
      simp [h']
    rw [rK,oS,ea,obS,c0']
    simp only [xD,obS,hb,he,bf7,Bool.false_eq_true,if_false]
    unfold hdB
    cases inB s.op 1 8 with
    | false =>
     have e1:decide ((s.args.length:Int)≠-1)=true:=by simp
     simp only [Bool.false_eq_true,if_false,e1,if_true,obS,Bool.false_and]
    | true =>
    simp only [if_true,Bool.true_and]
    by_cases hl:s.args.length=w8 s.op
    ·have e1 : decide ((s.args.length : Int) ≠ (w8 s.op : Int)) = false := by simp; omega
     have e3:decide (s.op=5∨s.op=6)=true→s.else_=s.else_:=λ_=>rfl
     rw [e1,c4 hl,eB,eE]
     simp only [Bool.false_eq_true,if_false,hl,decide_true,Bool.true_and]
     by_cases hn:s.op=1∨s.op=2
     ·have h5 : ¬ s.op = 5 := by omega
      have h6:¬ s.op=6:=by omega
      have h8:¬ s.op=8:=by omega
      simp only [hn,h5,h6,h8,decide_true,decide_false,if_true,or_self,or_false,false_implies,Bool.not_true,Bool.not_false,Bool.false_eq_true,if_false,obS,Bool.true_and]
      cases lu s.name with
      | false=>rfl
      | true =>
      by_cases p1:s.body=[]
      ·by_cases p2:s.else_=[]
       ·simp only [p1,p2,decide_true,Bool.not_true,Bool.not_false,Bool.false_eq_true,if_false,obS,if_true,Bool.and_true,Bool.true_and]
        cases s.args.all nJ<;>rfl
       ·simp only [p1,p2,decide_true,decide_false,Bool.not_true,Bool.not_false,Bool.false_eq_true,if_false,obS,if_true,Bool.and_false,Bool.false_and,Bool.and_true,Bool.true_and]
      ·simp only [p1,decide_false,Bool.not_true,Bool.not_false,Bool.false_eq_true,if_false,obS,if_true,Bool.and_false,Bool.false_and,Bool.and_true,Bool.true_and]
     ·simp only [hn,decide_false,Bool.not_false,Bool.false_eq_true,if_false,obS,if_true]
      by_cases p0:s.name=mkS []
      ·simp only [p0,ne_eq,not_true_eq_false,decide_false,decide_true,Bool.false_eq_true,if_false,obS,Bool.true_and]
       by_cases q5:s.op=5
       ·have h8 : ¬ s.op = 8 := by omega
        simp only [q5,true_or,or_true,decide_true,Bool.not_true,Bool.false_eq_true,if_false,obS,Bool.and_true,Bool.not_false,show ((5:Int)=8)=False from by simp,false_implies,show ((5:Int)=6)=False from by simp]
        cases s.args.all nJ with
        | false=>rfl
        | true=>cases s.body.all (oS d)<;>cases s.else_.all (oS d)<;>rfl
       ·by_cases q6:s.op=6
        ·simp only [q6, or_true, decide_true, Bool.not_true, Bool.false_eq_true, if_false, obS, show ((6 : Int) = 8) = False from by simp, show ((6 : Int) = 5) = False from by simp, false_implies, decide_false, Bool.not_false, if_true, or_false, false_or]
         by_cases p2:s.else_=[]
         ·simp only [p2,decide_true,Bool.not_true,Bool.false_eq_true,if_false,obS,Bool.true_and]
          cases s.args.all nJ with
          | false=>rfl
          | true=>cases s.body.all (oS d)<;>rfl
         ·simp only [p2,decide_false,Bool.not_false,if_true,obS,Bool.false_and,Bool.and_false,Bool.true_and]
        ·simp only [q5,q6,or_false,decide_false,Bool.not_false,if_true,obS]
         by_cases p1:s.body=[]
         ·by_cases p2:s.else_=[]
          ·simp only [p1,p2,decide_true,Bool.not_true,Bool.not_false,Bool.false_eq_true,if_false,obS,Bool.and_true,Bool.true_and]
           cases decide (s.op=8→(s.args[0]?).map (·.op)=some 13) with
           | false=>simp
           | true=>cases s.args.all nJ<;>rfl
          ·simp only [p1,p2,decide_true,decide_false,Bool.not_true,Bool.not_false,Bool.false_eq_true,if_false,if_true,obS,Bool.and_false,Bool.false_and]
         ·simp only [p1,decide_false,Bool.not_false,if_true,obS,Bool.and_false,Bool.false_and]
      ·simp only [p0,ne_eq,not_false_eq_true,decide_true,decide_false,if_true,obS,Bool.false_and]
    ·have e1 : decide ((s.args.length : Int) ≠ (w8 s.op : Int)) = true := by simp; omega
     rw [e1,decide_eq_false hl];rfl
end Prg
end Go.Wk
namespace Go.Wk
open Go
namespace Prg
set_option maxRecDepth 10000
theorem by1:∀ (l:List kN) (nest c d:Int),∃ r,oq l nest (c,d)=some r∧w64 r.1=w64 (c+nI l)∧(w64 c=c→w64 r.1=r.1):=by
 intro l
 induction l using xJ with
 | h l ih =>
  intro nest c d
  rw [oq]
  rcases mr (xs:=l) (body:=(λ(uC:Int) (uA:Int × Int)=>((kn l uC).bind λuB=>(oq uB.body (w64 (nest+1)) (w64 (uA.1+1),um uA.2 nest)).bind λuD=>(oq uB.else_ (w64 (nest+1)) uD).bind λuE=>some (.inl uE):Option ((Int × Int) ⊕ (Empty))))) (s:=(c,d)) (λp s=>w64 s.1=w64 (c+nI p)∧(w64 c=c→w64 s.1=s.1)) (λ_=>False)
   ⟨by rw [ma]; simp, fun h => h⟩ (fun p x r s he ⟨h1, h2⟩ => .inl (by
    obtain ⟨g1,g2⟩:=ih x (by rw [he];simp)
    obtain ⟨r1,a1,a2,a3⟩:=g1 (w64 (nest+1)) (w64 (s.1+1)) (um s.2 nest)
    obtain ⟨r2,b1,b2,b3⟩:=g2 (w64 (nest+1)) r1.1 r1.2
    have hg:kn l (p.length:Int)=some x:=by rw [he,mA]
    refine ⟨r2,?_,?_,λ_=>b3 (a3 (bj6 _))⟩
    ·rw [hg,obS,a1,obS,b1,obS]
    ·rw [b2,← pv,a2,pv,Int.add_assoc,pv,Int.add_assoc,← pv s.1,h1,pv,qP,nd,ma,qI]
     congr 1
     simp
     omega)) with ⟨s,h1,h2,h3⟩ | ⟨_,_,h⟩
  ·exact ⟨s,by rw [h1];rfl,h2,h3⟩
  ·exact h.elim
theorem ap2 (p:kp):∃ d,rN p=some (w64 (pM p.fns:Int),d):=by
 unfold rN
 rcases mr (xs:=p.fns) (body:=(λ(uC:Int) (uA:Int × Int)=>((kn p.fns uC).bind λuD=>(oq uD.body 1 (uA.1,uA.2)).bind λuB=>some (.inl (uB.1,uB.2)):Option ((Int × Int) ⊕ (Empty))))) (s:=((0:Int),(0:Int))) (λl s=>w64 s.1=w64 (pM l:Int)∧w64 s.1=s.1) (λ_=>False)
  ⟨rfl,rfl⟩ (λl x r s he ⟨h1,h2⟩=>.inl (by
   obtain ⟨r1,a1,a2,a3⟩:=by1 x.body 1 s.1 s.2
   have hg:kn p.fns (l.length:Int)=some x:=by rw [he,mA]
   refine ⟨(r1.1,r1.2),?_,?_,a3 h2⟩
   ·rw [hg,obS,a1,obS]
   ·show w64 r1.1 = _
    rw [a2,← pv,h1,pv,tN]
    congr 1)) with ⟨s,h1,h2,h3⟩ | ⟨_,_,h⟩
 ·exact ⟨s.2,by rw [h1,← h2,h3];rfl⟩
 ·exact h.elim
theorem ba4 {l:List Str} {X:Type} {e:X}:forN (S:=Unit) (X:=X) (λi _=>(kn l i).bind λx=>(ob x).bind λb=>if !b then some (.inr e) else some (.inl ())) ((l.length:Int) - 0).toNat 0 ()=if l.all lu then some (.inl ()) else some (.inr e):=by
 rw [qT (xs:=l) (λk=>!lu k) e (λp x r he=>by rw [he,mA,obS,uo,obS])]
 have:l.any (λk=>!lu k)=!l.all lu:=by rw [List.not_all_eq_any_not]
 rw [this]
 cases l.all lu<;>rfl
theorem bv8 (f:Fn_):sR f=some (fnB f):=by
 unfold sR fnB
 rw [ba4]
 have h1:ny f.body 4=some (f.body.all (oS 4)):=xl λs hs=>(ak0 f.body 4 (by omega) s hs).1
 rw [uo,h1]
 have e1:decide ((f.params.length:Int)≤3)=decide (f.params.length≤3):=by
  rw [decide_eq_decide];omega
 rw [e1]
 cases f.params.all lu with
 | false=>cases lu f.name<;>cases decide (f.params.length≤3)<;>rfl
 | true=>cases lu f.name<;>cases decide (f.params.length≤3)<;>cases f.body.all (oS 4)<;>rfl
theorem xR (p:kp):nr p=some (pE p):=by
 unfold nr pE
 rw [zI,obS,br2]
 rw [qT (xs:=p.fns) (body:=(λ(uA:Int) (uD:Unit)=>((kn p.fns uA).bind λuB=>(sR uB).bind λuC=>if !(uC) then some (.inr false) else some (.inl ()):Option ((Unit) ⊕ (Bool))))) (λf=>!fnB f) false (λl x r he=>by
  have hg:kn p.fns (l.length:Int)=some x:=by rw [he,mA]
  rw [hg,obS,bv8,obS])]
 have:p.fns.any (λk=>!fnB k)=!p.fns.all fnB:=by rw [List.not_all_eq_any_not]
 rw [this]
 cases inB (p.fns.length:Int) 1 4 with
 | false=>rfl
 | true=>cases p.fns.all fnB<;>rfl
theorem bv1 (f:Fn_):((oA f.name).bind λr=>if !r then some true else if decide (3<(f.params.length:Int)) then some true else (lT f.params (λy0=>mM y0)).bind λr2=>if r2 then some true else (nE f.body 1).bind λr3=>some (!r3))=some (!fnB f):=by
 have h1:nE f.body 1=some (f.body.all (oS 4)):=yJ λs hs=>(ak0 f.body 4 (by omega) s hs).2
 have h2:lT f.params (λy0=>mM y0)=some (!f.params.all lu):=by
  unfold lT mj
  obtain ⟨i,g1,g2⟩:=cb2 (xs:=f.params) (f:=λy0=>mM y0) (p:=λs=>!lu s) (λs _=>by unfold mM;rw [xD];rfl)
  rw [g1,obS,g2]
  have:f.params.any (λk=>!lu k)=!f.params.all lu:=by rw [List.not_all_eq_any_not]
  rw [this]
 have e1:decide (3<(f.params.length:Int))=!decide (f.params.length≤3):=by
  by_cases h:f.params.length≤3
  ·rw [decide_eq_true h];simp;omega
  ·rw [decide_eq_false h];simp;omega
 rw [xD,obS,h1,h2,e1]
 unfold fnB
 cases lu f.name<;>cases decide (f.params.length≤3)<;>cases f.params.all lu<;>cases f.body.all (oS 4)<;>rfl
theorem wc (p:kp):nw p=some (pE p):=by
 unfold nw pE
 obtain ⟨d,hm⟩:=ap2 p
 rw [vv,obS,hm]
 rw [qT (xs:=p.fns) (body:=(λ(uB:Int) (uG:Unit)=>((kn p.fns uB).bind λuA=>((oA uA.name).bind λuC=>if !(uC) then some true else if decide (3<((uA.params.length:Int))) then some true else (lT uA.params (λy0=>mM y0)).bind λuD=>if uD then some true else (nE uA.body 1).bind λuE=>some (!(uE)):Option (Bool)).bind λuF=>if uF then some (.inr false) else some (.inl ()):Option ((Unit) ⊕ (Bool))))) (λf=>!fnB f) false (λl x r he=>by
  have hg:kn p.fns (l.length:Int)=some x:=by rw [he,mA]
  rw [hg,obS,bv1,obS])]
 have:p.fns.any (λk=>!fnB k)=!p.fns.all fnB:=by rw [List.not_all_eq_any_not]
 rw [this]
 cases inB (p.fns.length:Int) 1 4 with
 | false=>rfl
 | true=>cases p.fns.all fnB<;>rfl
end Prg
end Go.Wk
namespace Go.Wk
open Go
namespace Prg
set_option maxRecDepth 10000
def GIn (g:lG) (p:Int):Prop:=(∀ s∈g.vars,lu s=true)∧(g.vars.length:Int)≤p+3∧(∀ f∈g.fns,f.params.length≤3)∧(-1≤g.next_∧g.next_≤p)∧(-3*p - 10≤g.left∧g.left≤1000)
def ai7 {A:Type} (b:List UInt8) (g:lG) (p lo hi c:Int) (Q:A→Prop) (r:A × lG × kR):Prop:=(r.2.2.b=b∧lo≤r.2.2.p∧r.2.2.p≤hi)∧(GIn r.2.1 r.2.2.p∧r.2.1.fns=g.fns∧g.left - 3*(r.2.2.p - p)+c≤r.2.1.left)∧Q r.1
theorem DrG.bind {A B:Type} {o:Option (A × lG × kR)} {b:List UInt8} {g:lG} {p lo hi c:Int} {P:A→Prop} {Q:B→Prop} {f:A × lG × kR→Option B} (h:Dr o (ai7 b g p lo hi c P)) (k:∀ v g' q,lo≤q→q≤hi→GIn g' q→g'.fns=g.fns→g.left - 3*(q - p)+c≤g'.left→P v→Dr (f (v,g',⟨b,q⟩)) Q):Dr (Option.bind o f) Q:=by
 obtain ⟨⟨v,g',⟨b',q⟩⟩,h1,⟨h2,h3,h4⟩,⟨h5,h6,h10⟩,h7⟩:=h
 simp only at h2 h3 h4 h5 h6 h7 h10
 subst h2
 obtain ⟨c,h8,h9⟩:=k v g' q h3 h4 h5 h6 h10 h7
 exact ⟨c,ko h1 h8,h9⟩
section
variable {b:List UInt8} (hb:b.length≤2000)
theorem ba1 {g:lG} {p:Int} (hb:b.length≤2000) (h0:0≤p) (h1:p≤800000) (hg:GIn g p):Dr (ot g ⟨b,p⟩) (ai7 b g p (p+1) (p+2) 3 (λs=>lu s=true)):=by
 obtain ⟨g1,g2,g3,⟨g4,g5⟩,g6,g7⟩:=hg
 unfold ot
 have ew:w64 (g.next_+1)=g.next_+1:=lV (by omega) (by omega)
 refine Dr.bind (P:=λs:Int × Bool=>s.1=p+1∧(s.2=true→0<g.vars.length)) ?_ λs hs=>?_
 ·refine pk hb h0 (by omega) fun v _ _ => ?_
  dsimp only
  refine Dr.ite (λ_=>Dr.some ⟨rfl,λh=>?_⟩) λ_=>Dr.some ⟨rfl,λh=>by cases h⟩
  have:=of_decide_eq_true h
  omega
 obtain ⟨s1,s2⟩:=hs
 dsimp only
 rw [s1,ew]
 refine Dr.ite (λhc=>?_) λ_=>?_
 ·refine ofx hb (s2 hc) (by omega) (by omega) λv hv=>Dr.some ⟨⟨rfl,by dsimp only;omega,by dsimp only;omega⟩,⟨⟨g1,by dsimp only;omega,g3,⟨by dsimp only;omega,by dsimp only;omega⟩,by dsimp only;omega,by dsimp only;omega⟩,rfl,by dsimp only;omega⟩,g1 v hv⟩
 ·obtain ⟨m,hm,hm2⟩:∃ m:Nat,g.next_+1=(m:Int)∧(g.next_+1).tmod 24=((m % 24:Nat):Int):=by
   refine ⟨(g.next_+1).toNat,by omega,?_⟩
   have:g.next_+1=((g.next_+1).toNat:Int):=by omega
   rw [this]
   have e:=Int.tmod_eq_emod_of_nonneg (a:=(((g.next_+1).toNat:Nat):Int)) (b:=24) (by omega)
   rw [e]
   omega
  have hlt:m % 24<24:=Nat.mod_lt _ (by decide)
  rw [hm2,lV (by omega) (by omega)]
  generalize m % 24=j at hlt
  have key:∀ j:Fin 24,∃ s:Str,tF (mkS [97,98,99,100,101,103,104,105,106,107,108,109,110,112,113,114,115,116,117,118,119,120,121,122]) ((j.val:Nat):Int) (((j.val:Nat):Int)+1)=some s∧lu s=true:=by
   intro j
   match j with
   | ⟨0,_⟩=>exact ⟨_,rfl,rfl⟩
   | ⟨1,_⟩=>exact ⟨_,rfl,rfl⟩
   | ⟨2,_⟩=>exact ⟨_,rfl,rfl⟩
   | ⟨3,_⟩=>exact ⟨_,rfl,rfl⟩
   | ⟨4,_⟩=>exact ⟨_,rfl,rfl⟩
   | ⟨5,_⟩=>exact ⟨_,rfl,rfl⟩
   | ⟨6,_⟩=>exact ⟨_,rfl,rfl⟩
   | ⟨7,_⟩=>exact ⟨_,rfl,rfl⟩
   | ⟨8,_⟩=>exact ⟨_,rfl,rfl⟩
   | ⟨9,_⟩=>exact ⟨_,rfl,rfl⟩
   | ⟨10,_⟩=>exact ⟨_,rfl,rfl⟩
   | ⟨11,_⟩=>exact ⟨_,rfl,rfl⟩
   | ⟨12,_⟩=>exact ⟨_,rfl,rfl⟩
   | ⟨13,_⟩=>exact ⟨_,rfl,rfl⟩
   | ⟨14,_⟩=>exact ⟨_,rfl,rfl⟩
   | ⟨15,_⟩=>exact ⟨_,rfl,rfl⟩
   | ⟨16,_⟩=>exact ⟨_,rfl,rfl⟩
   | ⟨17,_⟩=>exact ⟨_,rfl,rfl⟩
   | ⟨18,_⟩=>exact ⟨_,rfl,rfl⟩
   | ⟨19,_⟩=>exact ⟨_,rfl,rfl⟩
   | ⟨20,_⟩=>exact ⟨_,rfl,rfl⟩
   | ⟨21,_⟩=>exact ⟨_,rfl,rfl⟩
   | ⟨22,_⟩=>exact ⟨_,rfl,rfl⟩
   | ⟨23,_⟩=>exact ⟨_,rfl,rfl⟩
   | ⟨n+24,h⟩=>exact absurd h (by omega)
  obtain ⟨s',k1,k2⟩:=key ⟨j,hlt⟩
  dsimp only at k1
  rw [k1]
  exact Dr.some ⟨⟨rfl,by dsimp only;omega,by dsimp only;omega⟩,⟨⟨g1,by dsimp only;omega,g3,⟨by dsimp only;omega,by dsimp only;omega⟩,by dsimp only;omega,by dsimp only;omega⟩,rfl,by dsimp only;omega⟩,k2⟩
theorem bz7 {names:List Str} (hb:b.length≤2000) (hn:∀ s∈names,lu s=true) {p:Int} (h0:0≤p) (h1:p≤800000) {d:Nat} (hd:d≤2):DrA (mi ⟨b,p⟩ names ((d+1:Nat):Int)) b p (p+64) (λ_=>True):=by
 have hp:(4:Int) ^ (d+1)≤64:=by
  have:d=0∨d=1∨d=2:=by omega
  rcases this with rfl | rfl | rfl<;>decide
 refine Dr.mono (wA hb hn d p (by omega) h0 (by omega)) λr hr=>⟨⟨hr.1.1,hr.1.2.1,by have:=hr.1.2.2;omega⟩,trivial⟩
theorem bk1 {names:List Str} (hb:b.length≤2000) (hn:∀ s∈names,lu s=true) {p:Int} (h0:0≤p) (h1:p≤800000):DrA (mi ⟨b,p⟩ names 2) b p (p+16) (λ_=>True):=by
 have:=wA hb hn 1 p (by omega) h0 (by simp;omega)
 refine Dr.mono this λr hr=>⟨⟨hr.1.1,hr.1.2.1,by have:=hr.1.2.2;simp at this;omega⟩,trivial⟩
theorem xO {g:lG} {p:Int} (hb:b.length≤2000) (h0:0≤p) (h1:p≤700000) (hg:GIn g p) {d:Nat} (hd:d≤2):DrA (lg g ⟨b,p⟩ ((d+1:Nat):Int)) b p (p+140) (λ_=>True):=by
 obtain ⟨g1,g2,g3,g4,g5⟩:=hg
 unfold lg
 refine Dr.bind (P:=λs:Int × Int × Str × List kK × Int=>p≤s.2.2.2.2∧s.2.2.2.2≤p+64) ?_ λs hs=>?_
 ·exact DrA.bind (bz7 hb g1 h0 (by omega) hd) λe q k1 k2 _=>Dr.some ⟨k1,k2⟩
 obtain ⟨s1,s2⟩:=hs
 refine Dr.bind (P:=λz:Bool × Int=>p≤z.2∧z.2≤p+65∧(z.1=false→0<g.fns.length)) ?_ λz hz=>?_
 ·refine Dr.ite (fun _ => Dr.some ⟨s1, by dsimp only; omega, fun h => by cases h⟩) fun hf => ?_
  have hf2:=of_decide_eq_false hf
  exact pk hb (by omega) (by omega) λv _ _=>Dr.some ⟨by dsimp only;omega,by dsimp only;omega,λ_=>by omega⟩
 obtain ⟨z1,z2,z3⟩:=hz
 refine Dr.ite (λ_=>DrF (lo:=p) (hi:=p+140) (P:=λ_=>True) rfl z1 (by dsimp only;omega) trivial) λhf=>?_
 have hlen:=z3 hf
 refine Dr.bind (P:=λf:Str × List Str × List kN × Int=>f.2.1.length≤3∧p≤f.2.2.2∧f.2.2.2≤p+66) ?_ λf hfz=>?_
 ·refine pk hb (by omega) (by omega) fun v v0 v1 => ?_
  dsimp only
  exact gtx v0 (v1 (by omega)) λx hx=>Dr.some ⟨g3 x hx,by dsimp only;omega,by dsimp only;omega⟩
 obtain ⟨f1,f2,f3⟩:=hfz
 have e0:(((f.2.1.length:Int)) - 0).toNat=f.2.1.length:=by omega
 rw [e0]
 refine Dr.forN (I:=λj (s:List kK × Int)=>(s.1.length:Int)=j∧p≤s.2∧s.2≤p+66+16*j) ⟨rfl,f2,by dsimp only;omega⟩ (λj s j0 j1 hI=>?_) λs hI=>?_
 ·refine DrA.bind (bk1 hb g1 (by omega) (by omega)) fun e q k1 k2 _ => ?_
  dsimp only
  refine ap (by simp;omega) (Dr.some λt ht=>?_)
  simp only [Sum.inl.injEq] at ht
  subst ht
  exact ⟨by simp;omega,by dsimp only;omega,by dsimp only;omega⟩
 ·refine pk hb (by omega) (by omega) fun v _ _ => ?_
  dsimp only
  refine Dr.ite (λ_=>DrF (lo:=p) (hi:=p+140) (P:=λ_=>True) rfl (by dsimp only;omega) (by dsimp only;omega) trivial) λ_=>?_
  refine nm hb (by decide) (by omega) (by omega) λop _=>?_
  dsimp only
  exact DrA.bind (bk1 hb g1 (by omega) (by omega)) λe q k1 k2 _=>DrF (lo:=p) (hi:=p+140) (P:=λ_=>True) rfl (by dsimp only;omega) (by dsimp only;omega) trivial
theorem at1 {g:lG} {p:Int} (hb:b.length≤2000) (h0:0≤p) (h1:p≤700000) (hg:GIn g p):DrA (oR g ⟨b,p⟩) b p (p+141) (λ_=>True):=by
 unfold oR
 refine Dr.bind (P:=λs:List kK × Int=>p≤s.2∧s.2≤p+141) ?_ λs hs=>DrF (lo:=p) (hi:=p+141) (P:=λ_=>True) rfl hs.1 hs.2 trivial
 refine DrA.bind (xO hb h0 h1 hg (d:=1) (by omega)) λe q k1 k2 _=>?_
 dsimp only
 exact nm hb (by decide) (by omega) (by omega) λv _=>Dr.some ⟨by dsimp only;omega,by dsimp only;omega⟩
theorem bd4 {g:lG} {p:Int} (hb:b.length≤2000) (h0:0≤p) (h1:p≤700000) (hg:GIn g p) (e:kK):Dr (og g ⟨b,p⟩ e) (ai7 b g p (p+1) (p+2) 3 (λs=>lu s.name=true∧aw4 s=1)):=by
 unfold og
 refine DrG.bind (ba1 hb h0 (by omega) hg) λs g' q k1 k2 kg kf kl ks=>?_
 obtain ⟨a1,a2,a3,a4,a5⟩:=hg
 obtain ⟨b1,b2,b3,b4,b5⟩:=kg
 refine ap (by simp;omega) ?_
 rw [List.nil_append]
 refine ap (by simp;omega) ?_
 refine Dr.some ⟨⟨rfl,k1,k2⟩,⟨⟨λx hx=>?_,?_,a3,b4,b5⟩,rfl,kl⟩,ks,by rw [qI,ma]⟩
 ·rcases List.mem_append.1 hx with h | h
  ·exact a1 x h
  ·simp at h;subst h;exact ks
 ·simp
  omega
end
end Prg
end Go.Wk
namespace Go.Wk
open Go
namespace Prg
set_option maxRecDepth 10000
def aw9 (d:Nat) (K:Int) (C:Nat):Prop:=∀ (b:List UInt8) (g:lG) (p:Int),b.length≤2000→0≤p→p≤690000 - 120000*(d:Int)→GIn g p→Dr (mX g ⟨b,p⟩ (d:Int)) (ai7 b g p (p+1) (p+K) 3 (λl=>nI l≤C∧l.length≤1000))
def bf1 (d:Nat) (K:Int) (C:Nat):Prop:=∀ (b:List UInt8) (g:lG) (p:Int),b.length≤2000→0≤p→p≤795000 - 120000*(d:Int)→GIn g p→Dr (qL g ⟨b,p⟩ (d:Int)) (ai7 b g p (p+1) (p+K) 0 (λl=>nI l≤C∧l.length≤2))
theorem GIn.mono {g:lG} {p q:Int} (h:GIn g p) (hq:p≤q):GIn g q:=by
 obtain ⟨h1,h2,h3,⟨h4,h5⟩,h6,h7⟩:=h
 exact ⟨h1,by omega,h3,⟨h4,by omega⟩,by omega,h7⟩
theorem zi {d:Nat} (hd:1≤d) {K:Int} {C:Nat} (hK:1≤K∧K≤25000) (hC:C≤100) (hs:bf1 d K C):aw9 d (1+4*K) (4*C):=by
 intro b g p hb h0 h1 hg
 rw [mX]
 refine nm hb (by decide) h0 (by omega) λn hn=>?_
 dsimp only
 have hn2:1≤n∧n≤4:=by
  simp only [List.mem_cons,List.not_mem_nil,or_false] at hn
  omega
 refine Dr.bind (P:=λx:Int × List Str × Int × Int × List kN=>(p+1≤x.1∧x.1≤p+1+K*n)∧GIn ⟨g.fns,x.2.1,x.2.2.1,x.2.2.2.1⟩ x.1∧g.left - 3*(x.1 - p)+3≤x.2.2.2.1∧(nI x.2.2.2.2:Int)≤C*n∧(x.2.2.2.2.length:Int)≤2*n) ?_ λx hx=>?_
 ·refine Dr.bind (P:=λx:Int × List Str × Int × Int × List kN=>(p+1≤x.1∧x.1≤p+1+K*n)∧GIn ⟨g.fns,x.2.1,x.2.2.1,x.2.2.2.1⟩ x.1∧g.left - 3*(x.1 - p)+3≤x.2.2.2.1∧(nI x.2.2.2.2:Int)≤C*n∧(x.2.2.2.2.length:Int)≤2*n) ?_ λx hx=>Dr.some hx
  refine Dr.loop (I:=λx:Int × List Str × Int × Int × List kN × Int=>((0≤x.2.2.2.2.2∧x.2.2.2.2.2≤n)∧p+1≤x.1∧x.1≤p+1+K*(n - x.2.2.2.2.2))∧GIn ⟨g.fns,x.2.1,x.2.2.1,x.2.2.2.1⟩ x.1∧g.left - 3*(x.1 - p)+3≤x.2.2.2.1∧(nI x.2.2.2.2.1:Int)≤C*(n - x.2.2.2.2.2)∧(x.2.2.2.2.1.length:Int)≤2*(n - x.2.2.2.2.2)) (λx=>x.2.2.2.2.2.toNat) ?_ ?_
  ·refine ⟨⟨⟨by dsimp only; omega, by dsimp only; omega⟩, by dsimp only; omega, ?_⟩, ?_, ?_, ?_, ?_⟩
   ·dsimp only;rw [Int.sub_self,Int.mul_zero];omega
   ·exact hg.mono (by dsimp only;omega)
   ·dsimp only;omega
   ·dsimp only;rw [ma,Int.sub_self,Int.mul_zero];omega
   ·dsimp only;simp
  rintro ⟨q,vars,nx,lf,out,i⟩ ⟨⟨⟨i0,i1⟩,q0,q1⟩,gi,li,ci,li2⟩
  dsimp only at i0 i1 q0 q1 gi li ci li2 ⊢
  have hmul:K*(n - i)≤100000:=by
   have h1:K*(n - i)≤K*4:=Int.mul_le_mul_of_nonneg_left (by omega) (by omega)
   omega
  refine Dr.bind (P:=λs:Bool=>s=true→0<i) ?_ λs hsb=>?_
  ·refine Dr.ite (λh=>Dr.some λ_=>of_decide_eq_true h) λ_=>Dr.some λh=>by cases h
  refine Dr.ite (λhc=>?_) λ_=>?_
  ·have hi:=hsb hc
   refine DrG.bind (hs b _ q hb (by omega) (by omega) gi) λl g' q' k1 k2 kg kf kl kc=>?_
   have hC4:(C:Int)*(n - i)≤400:=by
    have h1:(C:Int)*(n - i)≤(C:Int)*4:=Int.mul_le_mul_of_nonneg_left (by omega) (by omega)
    omega
   refine ap (by have:=kc.2;dsimp only;omega) (Dr.some (And.intro (λt ht=>?_) λt ht=>by cases ht))
   simp only [Sum.inl.injEq] at ht
   subst ht
   have ew:w64 (i - 1)=i - 1:=lV (by omega) (by omega)
   have eK:K*(n - (i - 1))=K*(n - i)+K:=by rw [show n - (i - 1)=(n - i)+1 by omega,Int.mul_add,Int.mul_one]
   have eC:(C:Int)*(n - (i - 1))=C*(n - i)+C:=by rw [show n - (i - 1)=(n - i)+1 by omega,Int.mul_add,Int.mul_one]
   dsimp only at kl kc ⊢
   rw [ew,eK,eC]
   refine ⟨⟨⟨⟨by omega,by omega⟩,by omega,by omega⟩,?_,by omega,?_,?_⟩,by omega⟩
   ·have : g' = ⟨g.fns, g'.vars, g'.next_, g'.left⟩ := by cases g'; simp at kf; subst kf; rfl
    rw [this] at kg
    exact kg
   ·rw [qP];have:=kc.1;omega
   ·have:=kc.2;simp;omega
  ·refine Dr.some (And.intro (fun t ht => by cases ht) fun t ht => ?_)
   simp only [Sum.inr.injEq] at ht
   subst ht
   dsimp only
   have hK2:K*(n - i)≤K*n:=Int.mul_le_mul_of_nonneg_left (by omega) (by omega)
   have hC2:(C:Int)*(n - i)≤C*n:=Int.mul_le_mul_of_nonneg_left (by omega) (by omega)
   exact ⟨⟨q0,by omega⟩,gi,li,by omega,by omega⟩
 obtain ⟨⟨x1,x2⟩,x3,x4,x5,x6⟩:=hx
 have hK4:K*n≤4*K:=by
  have h1:K*n≤K*4:=Int.mul_le_mul_of_nonneg_left (by omega) (by omega)
  omega
 have hC4:(C:Int)*n≤4*C:=by
  have h1:(C:Int)*n≤(C:Int)*4:=Int.mul_le_mul_of_nonneg_left (by omega) (by omega)
  omega
 obtain ⟨a1,a2,a3,a4,a5⟩:=hg
 obtain ⟨b1,b2,b3,b4,b5⟩:=x3
 exact Dr.some ⟨⟨rfl,x1,by dsimp only;omega⟩,⟨⟨a1,by dsimp only;omega,a3,b4,b5⟩,rfl,by dsimp only;omega⟩,by dsimp only;omega,by dsimp only;omega⟩
theorem bp2 {d:Nat} {K:Int} {C:Nat} (hK:1≤K∧K≤200000) (hC:C≤400) (hB:aw9 d K C) (hd:d≤10) {b:List UInt8} {g:lG} {p:Int} (hb:b.length≤2000) (h0:0≤p) (h1:p≤680000 - 120000*(d:Int)) (hg:GIn g p) :
  Dr (qH g ⟨b,p⟩ ((d+1:Nat):Int)) (ai7 b g p (p+1) (p+3+K) 0 (λl=>nI l≤C+3∧l.length≤2)):=by
 rw [qH]
 refine nm hb (by decide) h0 (by omega) λn hn=>?_
 dsimp only
 refine DrG.bind (bd4 hb (by omega) (by omega) (hg.mono (by omega)) _) λs g' q k1 k2 kg kf kl ks=>?_
 dsimp only
 have ew:w64 (((d+1:Nat):Int) - 1)=(d:Int):=by rw [lV (by omega) (by omega)];omega
 rw [ew]
 have hgi:GIn ⟨g.fns,g'.vars,g'.next_,g'.left⟩ q:=by
  have:g'=⟨g.fns,g'.vars,g'.next_,g'.left⟩:=by cases g';simp at kf;subst kf;rfl
  rw [this] at kg
  exact kg
 refine DrG.bind (hB b _ q hb (by omega) (by omega) hgi) λl g2 q2 m1 m2 mg mf ml mc=>?_
 dsimp only at ml ⊢
 refine Dr.bind (P:=λz:List kN=>nI z≤C+3∧z.length≤2) ?_ λz hz=>?_
 ·refine ap (by have := mc.2; simp; omega) (Dr.some ⟨?_, by simp⟩)
  rw [nd,nd,ma,ks.2,qI]
  dsimp only
  rw [qP,nd,ma,qI]
  dsimp only
  rw [ma]
  have:=mc.1
  omega
 obtain ⟨b1,b2,b3,b4,b5,b6⟩:=mg
 have ew2:w64 (g2.left - 2)=g2.left - 2:=lV (by omega) (by omega)
 rw [ew2]
 have hf2:g2.fns=g.fns:=mf
 refine Dr.some ⟨⟨rfl,by dsimp only;omega,by dsimp only;omega⟩,⟨⟨b1,b2,by rw [← hf2];exact b3,b4,?_,by dsimp only;omega⟩,rfl,by dsimp only;omega⟩,hz⟩
 obtain ⟨_,_,_,_,a5,a6⟩:=hg
 dsimp only
 omega
theorem xu {d:Nat} {K:Int} {C:Nat} (hK:1≤K∧K≤25000) (hC:C≤100) (hd:d≤3) (hd1:1≤d) (hB:2≤d→aw9 (d - 1) ((K - 145) / 2) ((C - 3) / 2)∧3≤C∧600≤K) (hC1:1≤C) (hK1:300≤K):bf1 d K C:=by
 intro b g p hb h0 h1 hg
 have hgo:=hg
 obtain ⟨a1,a2,a3,⟨a4,a5⟩,a6,a7⟩:=hgo
 have ew:w64 (g.left - 1)=g.left - 1:=lV (by omega) (by omega)
 rw [qL]
 refine pk hb h0 (by omega) λv _ _=>?_
 dsimp only
 rw [ew]
 have hg1:∀ q,p+1≤q→GIn ⟨g.fns,g.vars,g.next_,g.left - 1⟩ q:=λq hq=>⟨a1,by dsimp only;omega,a3,⟨by dsimp only;omega,by dsimp only;omega⟩,by dsimp only;omega,by dsimp only;omega⟩
 have out1:∀ (q:Int) (l:List kN),p+1≤q→q≤p+K→nI l≤C∧l.length≤2→Dr (some (l,(⟨g.fns,g.vars,g.next_,g.left - 1⟩:lG),(⟨b,q⟩:kR))) (ai7 b g p (p+1) (p+K) 0 (λl=>nI l≤C∧l.length≤2)):=λq l hq hq2 hl=>Dr.some ⟨⟨rfl,hq,hq2⟩,⟨hg1 q hq,rfl,by dsimp only;omega⟩,hl⟩
 have one:∀ (op:Int) (n:Str) (a:List kK),nI ([⟨op,n,a,[],[]⟩]:List kN)≤C∧([⟨op,n,a,[],[]⟩]:List kN).length≤2:=λop n a=>⟨by rw [nd,ma,qI];dsimp only;rw [ma];omega,by simp⟩
 have e3:((2+1:Nat):Int)=3:=rfl
 have e2:((1+1:Nat):Int)=2:=rfl
 have ex3:∀ q,p+1≤q→q≤690000→DrA (lg ⟨g.fns,g.vars,g.next_,g.left - 1⟩ ⟨b,q⟩ 3) b q (q+140) (λ_=>True):=λq hq hq2=>by
  have:=xO hb (by omega) (by omega) (hg1 q hq) (d:=2) (by omega)
  rw [e3] at this;exact this
 have ex2:∀ q,p+1≤q→q≤690000→DrA (lg ⟨g.fns,g.vars,g.next_,g.left - 1⟩ ⟨b,q⟩ 2) b q (q+140) (λ_=>True):=λq hq hq2=>by
  have:=xO hb (by omega) (by omega) (hg1 q hq) (d:=1) (by omega)
  rw [e2] at this;exact this
 refine Dr.bind (P:=λs:Bool=>s=true→0<g.vars.length) ?_ λs hs=>?_
 ·refine Dr.ite (fun _ => Dr.some fun h => ?_) fun _ => Dr.some fun h => by cases h
  have:=of_decide_eq_true h
  omega
 refine Dr.ite (λhc=>?_) λ_=>?_
 ·refine ofx hb (hs hc) (by omega) (by omega) fun n _ => ?_
  dsimp only
  exact DrA.bind (ex3 _ (by omega) (by omega)) λe q k1 k2 _=>out1 q _ (by omega) (by omega) (one _ _ _)
 refine Dr.ite (λ_=>?_) λ_=>?_
 ·refine DrA.bind (ex3 _ (by omega) (by omega)) fun e q k1 k2 _ => ?_
  dsimp only
  refine DrG.bind (bd4 hb (by omega) (by omega) (hg1 q (by omega)) e) λs g' q2 m1 m2 mg mf ml ms=>?_
  have hgi:GIn ⟨g.fns,g'.vars,g'.next_,g'.left⟩ q2:=by
   have:g'=⟨g.fns,g'.vars,g'.next_,g'.left⟩:=by cases g';simp at mf;subst mf;rfl
   rw [this] at mg
   exact mg
  dsimp only at ml
  exact Dr.some ⟨⟨rfl,by dsimp only;omega,by dsimp only;omega⟩,⟨hgi,rfl,by dsimp only;omega⟩,by rw [nd,ma,ms.2];omega,by simp⟩
 refine Dr.bind (P:=λs:Bool=>s=false→2≤d) ?_ λs hs2=>?_
 ·refine Dr.ite (fun _ => Dr.some fun h => by cases h) fun _ => Dr.some fun h => ?_
  have:=of_decide_eq_false h
  omega
 refine Dr.ite (λ_=>?_) λhf=>?_
 ·exact DrA.bind (ex3 _ (by omega) (by omega)) λe q k1 k2 _=>out1 q _ (by omega) (by omega) (one _ _ _)
 have hd2:=hs2 hf
 obtain ⟨hBl,hC3,hK6⟩:=hB hd2
 obtain ⟨d',rfl⟩:∃ d',d=d'+1:=⟨d - 1,by omega⟩
 rw [show d'+1 - 1=d' by omega] at hBl
 generalize hKb:(K - 145) / 2=Kb at hBl
 generalize hCb:(C - 3) / 2=Cb at hBl
 have hKb2:2*Kb≤K - 145∧1≤Kb:=by omega
 have hCb2:2*Cb≤C - 3:=by omega
 have ewd:w64 (((d'+1:Nat):Int) - 1)=(d':Int):=by rw [lV (by omega) (by omega)];omega
 refine Dr.ite (λ_=>?_) λ_=>?_
 ·refine DrA.bind (at1 hb (by omega) (by omega) (hg1 _ (by omega))) fun e q k1 k2 _ => ?_
  dsimp only
  exact DrA.bind (ex2 _ (by omega) (by omega)) λe2 q2 m1 m2 _=>out1 q2 _ (by omega) (by omega) (one _ _ _)
 refine Dr.ite (λ_=>?_) λ_=>?_
 ·exact DrA.bind (at1 hb (by omega) (by omega) (hg1 _ (by omega))) λe q k1 k2 _=>out1 q _ (by omega) (by omega) (one _ _ _)
 refine Dr.ite (λ_=>?_) λ_=>?_
 ·refine DrA.bind (ex3 _ (by omega) (by omega)) fun e q k1 k2 _ => ?_
  dsimp only
  rw [ewd]
  refine DrG.bind (hBl b _ q hb (by omega) (by omega) (hg1 q (by omega))) λl g2 q2 m1 m2 mg mf ml mc=>?_
  dsimp only at mf ml ⊢
  have hgi:GIn ⟨g.fns,g2.vars,g2.next_,g2.left⟩ q2:=by
   have:g2=⟨g.fns,g2.vars,g2.next_,g2.left⟩:=by cases g2;simp at mf;subst mf;rfl
   rw [this] at mg
   exact mg
  refine pk hb (by omega) (by omega) λv _ _=>?_
  dsimp only
  refine Dr.bind (P:=λs:List kN × Int × List Str × Int × Int=>(q2+1≤s.2.1∧s.2.1≤p+K)∧GIn ⟨g.fns,s.2.2.1,s.2.2.2.1,s.2.2.2.2⟩ s.2.1∧g.left - 3*(s.2.1 - p)≤s.2.2.2.2∧nI s.1≤Cb) ?_ λs hs=>?_
  ·refine Dr.ite (λ_=>?_) λ_=>?_
   ·refine DrG.bind (hBl b _ (q2 + 1) hb (by omega) (by omega) (hgi.mono (by omega))) fun l3 g3 q3 n1 n2 ng nf nl nc => ?_
    dsimp only at nf nl ⊢
    have hgi3:GIn ⟨g.fns,g3.vars,g3.next_,g3.left⟩ q3:=by
     have:g3=⟨g.fns,g3.vars,g3.next_,g3.left⟩:=by cases g3;simp at nf;subst nf;rfl
     rw [this] at ng
     exact ng
    exact Dr.some ⟨⟨by dsimp only;omega,by dsimp only;omega⟩,hgi3,by dsimp only;omega,nc.1⟩
   ·exact Dr.some ⟨⟨by dsimp only;omega,by dsimp only;omega⟩,hgi.mono (by dsimp only;omega),by dsimp only;omega,by dsimp only;rw [ma];omega⟩
  obtain ⟨⟨s1,s2⟩,s3,s4,s5⟩:=hs
  refine Dr.some ⟨⟨rfl,by dsimp only;omega,by dsimp only;omega⟩,⟨s3,rfl,by dsimp only;omega⟩,?_,by simp⟩
  rw [nd,ma,qI]
  dsimp only
  have:=mc.1
  omega
 refine Dr.bind (P:=λs:Int × Bool=>p+1≤s.1∧s.1≤p+2) ?_ λs hs=>?_
 ·refine Dr.ite (λ_=>pk hb (by omega) (by omega) λv _ _=>Dr.some ⟨by dsimp only;omega,by dsimp only;omega⟩) λ_=>Dr.some ⟨by dsimp only;omega,by dsimp only;omega⟩
 refine Dr.ite (λ_=>?_) λ_=>?_
 ·exact DrA.bind (ex2 _ (by omega) (by omega)) λe q k1 k2 _=>out1 q _ (by omega) (by omega) (one _ _ _)
 ·refine DrG.bind (bp2 (by omega) (by omega) hBl (by omega) hb (by omega) (by omega) (hg1 _ hs.1)) fun l g2 q2 m1 m2 mg mf ml mc => ?_
  dsimp only at mf ml ⊢
  have hgi:GIn ⟨g.fns,g2.vars,g2.next_,g2.left⟩ q2:=by
   have:g2=⟨g.fns,g2.vars,g2.next_,g2.left⟩:=by cases g2;simp at mf;subst mf;rfl
   rw [this] at mg
   exact mg
  exact Dr.some ⟨⟨rfl,by dsimp only;omega,by dsimp only;omega⟩,⟨hgi,rfl,by dsimp only;omega⟩,by have:=mc.1;dsimp only;omega,mc.2⟩
theorem cd9:bf1 1 300 1:=xu (by decide) (by decide) (by decide) (by decide) (λh=>by omega) (by decide) (by decide)
theorem cd7:aw9 1 1201 4:=zi (by decide) (by decide) (by decide) cd9
theorem ce8:bf1 2 3000 11:=xu (by decide) (by decide) (by decide) (by decide) (λ_=>⟨λb g p h1 h2 h3 h4=>(cd7 b g p h1 h2 h3 h4).mono λr hr=>⟨⟨hr.1.1,hr.1.2.1,by have:=hr.1.2.2;omega⟩,hr.2.1,by have:=hr.2.2.1;omega,hr.2.2.2⟩,by decide,by decide⟩) (by decide) (by decide)
theorem cd4:aw9 2 12001 44:=zi (by decide) (by decide) (by decide) ce8
theorem ce7:bf1 3 25000 91:=xu (by decide) (by decide) (by decide) (by decide) (λ_=>⟨λb g p h1 h2 h3 h4=>(cd4 b g p h1 h2 h3 h4).mono λr hr=>⟨⟨hr.1.1,hr.1.2.1,by have:=hr.1.2.2;omega⟩,hr.2.1,by have:=hr.2.2.1;omega,hr.2.2.2⟩,by decide,by decide⟩) (by decide) (by decide)
theorem cd6:aw9 3 100001 364:=zi (by decide) (by decide) (by decide) ce7
end Prg
end Go.Wk
namespace Go.Wk
open Go
namespace Prg
set_option maxRecDepth 10000
theorem GIn.of {g g':lG} {p:Int} (h:GIn g' p) (e:g'.fns=g.fns):GIn ⟨g.fns,g'.vars,g'.next_,g'.left⟩ p:=by
 have:g'=⟨g.fns,g'.vars,g'.next_,g'.left⟩:=by cases g';simp at e;subst e;rfl
 rw [this] at h
 exact h
theorem bs1 {b:List UInt8} (hb:b.length≤2000) {g:lG} {p k:Int} (h0:2≤p) (h1:p≤320000) (hg:GIn g p) (k0:0≤k) (k1:k≤3) (name:Str) :
  Dr (pD g ⟨b,p⟩ name k) (ai7 b g p p (p+100200) 0 (λf=>f.params.length≤3∧nI f.body≤365)):=by
 unfold pD
 have hN:∀ s∈([(mkS [97]),(mkS [98]),(mkS [99])]:List Str),lu s=true:=by
  intro s hs
  simp only [List.mem_cons,List.not_mem_nil,or_false] at hs
  rcases hs with rfl | rfl | rfl<;>rfl
 refine Dr.bind (P:=λx:List Str=>(x.length:Int)=k∧∀ s∈x,lu s=true) ?_ λx hx=>?_
 ·refine ⟨_, te.2 ⟨⟨by omega, k0, ?_⟩, rfl⟩, ?_, ?_⟩
  ·simp;omega
  ·simp;omega
  ·intro s hs
   exact hN s (List.mem_of_mem_take (List.mem_of_mem_drop hs))
 obtain ⟨x1,x2⟩:=hx
 refine ap (by simp;omega) ?_
 have ew:w64 (k - 1)=k - 1:=lV (by omega) (by omega)
 rw [ew]
 have hgo:=hg
 obtain ⟨a1,a2,a3,⟨a4,a5⟩,a6,a7⟩:=hgo
 refine DrG.bind (cd6 b _ p hb (by omega) (by omega) ⟨x2,by dsimp only;omega,a3,⟨by dsimp only;omega,by dsimp only;omega⟩,by dsimp only;omega,by dsimp only;omega⟩) λl g2 q m1 m2 mg mf ml mc=>?_
 dsimp only at mf ml ⊢
 have hgi:=GIn.of mg (g:=g) mf
 refine Dr.bind (P:=λs:Int × Bool=>q≤s.1∧s.1≤q+1) ?_ λs hs=>?_
 ·refine Dr.ite (λ_=>pk hb (by omega) (by omega) λv _ _=>Dr.some ⟨by dsimp only;omega,by dsimp only;omega⟩) λ_=>Dr.some ⟨by dsimp only;omega,by dsimp only;omega⟩
 have hgo2:=hgi
 obtain ⟨b1,b2,b3,⟨b4,b5⟩,b6,b7⟩:=hgo2
 dsimp only at b1 b2 b3 b4 b5 b6 b7
 have ew2:w64 (g2.left - 1)=g2.left - 1:=lV (by omega) (by omega)
 refine Dr.bind (P:=λs:List kN × Int × Int=>nI s.1≤365∧q≤s.2.1∧s.2.1≤q+142∧g2.left - 1≤s.2.2∧s.2.2≤g2.left) ?_ λz hz=>?_
 ·refine Dr.ite (fun _ => ?_) fun _ => Dr.some ⟨by have := mc.1; dsimp only; omega, hs.1, by dsimp only; omega, by dsimp only; omega, by dsimp only; omega⟩
  rw [ew2]
  refine DrA.bind (by
   have:=xO (g:=⟨g.fns,g2.vars,g2.next_,g2.left - 1⟩) hb (p:=s.1) (by omega) (by omega) ⟨b1,by dsimp only;omega,b3,⟨by dsimp only;omega,by dsimp only;omega⟩,by dsimp only;omega,by dsimp only;omega⟩ (d:=1) (by omega)
   exact this) λe q2 n1 n2 _=>?_
  dsimp only
  have hml:=mc.2
  refine ap (by simp;omega) (Dr.some ⟨?_,by dsimp only;omega,by dsimp only;omega,by dsimp only;omega,by dsimp only;omega⟩)
  dsimp only
  rw [qP,nd,ma,qI]
  dsimp only
  rw [ma]
  have:=mc.1
  omega
 obtain ⟨z1,z2,z3,z4,z5⟩:=hz
 refine Dr.some ⟨⟨rfl,by dsimp only;omega,by dsimp only;omega⟩,⟨⟨b1,by dsimp only;omega,b3,⟨by dsimp only;omega,by dsimp only;omega⟩,by dsimp only;omega,by dsimp only;omega⟩,rfl,?_⟩,?_,z1⟩
 ·dsimp only;omega
 ·dsimp only
  rw [List.nil_append]
  omega
theorem at8:∀ {l:List Fn_} {n:Nat},(∀ f∈l,nI f.body≤n)→pM l≤n*l.length
 | [],n,_=>by rw [pM];omega
 | f::l,n,h=>by
  have:=at8 (l:=l) (n:=n) λg hg=>h g (List.mem_cons_of_mem _ hg)
  have h2:=h f List.mem_cons_self
  rw [pM,List.length_cons,Nat.mul_succ]
  omega
theorem cb5:pE (⟨([(⟨(mkS [109]),[],([(⟨3,(mkS []),([(⟨1,1,(mkS []),[]⟩:kK)]:List kK),[],[]⟩:kN)]:List kN)⟩:Fn_)]:List Fn_)⟩:kp)=true∧pM ([(⟨(mkS [109]),[],([(⟨3,(mkS []),([(⟨1,1,(mkS []),[]⟩:kK)]:List kK),[],[]⟩:kN)]:List kN)⟩:Fn_)]:List Fn_)≤40:=by
 constructor
 ·rfl
 ·decide +kernel
theorem br6 {b:List UInt8} (hb:b.length≤2000):DrA (rD ⟨b,0⟩) b 0 310000 (λp=>pE p=true∧pM p.fns≤40):=by
 unfold rD
 refine nm hb (by decide) (by omega) (by omega) λlf hlf=>?_
 refine nm hb (by decide) (by dsimp only;omega) (by dsimp only;omega) λn hn=>?_
 have hlf2:8≤lf∧lf≤26:=by
  simp only [List.mem_cons,List.not_mem_nil,or_false] at hlf
  omega
 have hn2:0≤n∧n≤2:=by
  simp only [List.mem_cons,List.not_mem_nil,or_false] at hn
  omega
 dsimp only
 have hI0:∀ {q:Int},0≤q→GIn ⟨([]:List Fn_),[],0,lf⟩ q:=λ{q} hq=>⟨λs hs=>(by simp at hs),by dsimp only;simp;omega,λf hf=>(by simp at hf),⟨by dsimp only;omega,by dsimp only;omega⟩,by dsimp only;omega,by dsimp only;omega⟩
 refine Dr.bind (P:=λx:Int × List Fn_ × List Str × Int × Int=>(2≤x.1∧x.1≤2+100201*n)∧GIn ⟨x.2.1,x.2.2.1,x.2.2.2.1,x.2.2.2.2⟩ x.1∧((x.2.1.length:Int)≤n∧∀ f∈x.2.1,nI f.body≤365)) ?_ λx hx=>?_
 ·refine Dr.bind (P:=λx:Int × List Fn_ × List Str × Int × Int=>(2≤x.1∧x.1≤2+100201*n)∧GIn ⟨x.2.1,x.2.2.1,x.2.2.2.1,x.2.2.2.2⟩ x.1∧((x.2.1.length:Int)≤n∧∀ f∈x.2.1,nI f.body≤365)) ?_ λx hx=>Dr.some hx
  refine Dr.loop (I:=λx:Int × List Fn_ × List Str × Int × Int × Int=>(((0≤x.2.2.2.2.2∧x.2.2.2.2.2≤n)∧(x.2.1.length:Int)+x.2.2.2.2.2=n)∧2≤x.1∧x.1≤2+100201*(n - x.2.2.2.2.2))∧GIn ⟨x.2.1,x.2.2.1,x.2.2.2.1,x.2.2.2.2.1⟩ x.1∧∀ f∈x.2.1,nI f.body≤365) (λx=>x.2.2.2.2.2.toNat) ?_ ?_
  ·exact ⟨⟨⟨⟨by dsimp only;omega,by dsimp only;omega⟩,by dsimp only;simp⟩,by dsimp only;omega,by dsimp only;omega⟩,hI0 (by dsimp only;omega),λf hf=>by simp at hf⟩
  rintro ⟨q,fns,vars,nx,lf2,i⟩ ⟨⟨⟨⟨i0,i1⟩,i2⟩,q0,q1⟩,gi,fi⟩
  dsimp only at i0 i1 i2 q0 q1 gi fi ⊢
  refine Dr.ite (λhc=>?_) λ_=>?_
  ·have hc:=of_decide_eq_true hc
   have ew:w64 (i - 1)=i - 1:=lV (by omega) (by omega)
   refine Dr.bind (P:=λs:Int × List Str × Int × Int × Str × List Str × List kN=>(q+1≤s.1∧s.1≤q+100201)∧GIn ⟨fns,s.2.1,s.2.2.1,s.2.2.2.1⟩ s.1∧(s.2.2.2.2.2.1.length≤3∧nI s.2.2.2.2.2.2≤365)) ?_ λs hs=>?_
   ·refine gtx (by omega) (by simp; omega) fun nmf _ => ?_
    refine pk hb (by omega) (by omega) λv v0 v1=>?_
    dsimp only
    refine DrG.bind (bs1 hb (by omega) (by omega) (gi.mono (by omega)) v0 (by have:=v1 (by omega);omega) nmf) λf g' q2 k1 k2 kg kf kl kc=>?_
    try rw [obS]
    exact Dr.some ⟨⟨by dsimp only;omega,by dsimp only;omega⟩,kg.of (g:=⟨fns,vars,nx,lf2⟩) kf,kc⟩
   obtain ⟨⟨s1,s2⟩,s3,s4,s5⟩:=hs
   refine Dr.bind (P:=λz:List Fn_=>z=fns++[⟨s.2.2.2.2.1,s.2.2.2.2.2.1,s.2.2.2.2.2.2⟩]) ?_ λz hz=>?_
   ·exact ap (by simp;omega) (Dr.some rfl)
   subst hz
   rw [ew]
   refine Dr.some (And.intro (λt ht=>?_) λt ht=>by cases ht)
   simp only [Sum.inl.injEq] at ht
   subst ht
   dsimp only
   obtain ⟨c1,c2,c3,c4,c5⟩:=s3
   refine ⟨⟨⟨⟨⟨by omega,by omega⟩,by simp;omega⟩,by omega,by omega⟩,⟨c1,c2,λf hf=>?_,c4,c5⟩,λf hf=>?_⟩,by omega⟩
   ·dsimp only at hf c3
    rcases List.mem_append.1 hf with h | h
    ·exact c3 f h
    ·simp at h;subst h;exact s4
   ·rcases List.mem_append.1 hf with h | h
    ·exact fi f h
    ·simp at h;subst h;exact s5
  ·refine Dr.some (And.intro (fun t ht => by cases ht) fun t ht => ?_)
   simp only [Sum.inr.injEq] at ht
   subst ht
   dsimp only
   exact ⟨⟨q0,by omega⟩,gi,by omega,fi⟩
 obtain ⟨⟨x1,x2⟩,x3,x4,x5⟩:=hx
 refine nm hb (by decide) (by omega) (by omega) λk hk=>?_
 have hk2:0≤k∧k≤2:=by
  simp only [List.mem_cons,List.not_mem_nil,or_false] at hk
  omega
 dsimp only
 refine DrG.bind (bs1 hb (by omega) (by omega) (x3.mono (by omega)) hk2.1 (by omega) _) λf g' q2 k1 k2 kg kf kl kc=>?_
 dsimp only
 refine Dr.bind (P:=λz:List Fn_=>z=x.2.1++[f]) ?_ λz hz=>?_
 ·refine ap (by simp; omega) ?_
  rw [List.nil_append]
  refine ap (by simp;omega) ?_
  try rw [obS]
  exact Dr.some rfl
 subst hz
 have hcnt:pM (x.2.1++[f])≤365*(x.2.1++[f]).length:=at8 λg hg=>by
  rcases List.mem_append.1 hg with h | h
  ·exact x5 g h
  ·simp at h;subst h;exact kc.2
 have hlen:(x.2.1++[f]).length≤3:=by simp;omega
 rw [xR,obS]
 refine Dr.ite (λ_=>DrF (lo:=0) (hi:=310000) (P:=λp:kp=>pE p=true∧pM p.fns≤40) rfl (by dsimp only;omega) (by dsimp only;omega) ⟨cb5.1,cb5.2⟩) λhp=>DrF (lo:=0) (hi:=310000) (P:=λp:kp=>pE p=true∧pM p.fns≤40) rfl (by dsimp only;omega) (by dsimp only;omega) ?_
 have hp2:pE ⟨x.2.1++[f]⟩=true:=by
  cases h:pE ⟨x.2.1++[f]⟩ with
  | true=>rfl
  | false=>rw [h] at hp;exact absurd hp (by decide)
 refine ⟨hp2,?_⟩
 have h3:w64 (pM (x.2.1++[f]):Int)≤40:=by
  unfold pE at hp2
  simp only [Bool.and_eq_true,decide_eq_true_eq] at hp2
  exact hp2.2.2
 rw [lV (by omega) (by omega)] at h3
 dsimp only
 omega
end Prg
end Go.Wk
namespace Go.Wk
open Go
namespace Prg
set_option maxRecDepth 10000
def kW (t:Str):kJ:=⟨4,t⟩
def sC:kJ:=⟨3,mkS [59]⟩
def oB:kJ:=⟨3,mkS [123]⟩
def cB:kJ:=⟨3,mkS [125]⟩
def eQ:kJ:=⟨3,mkS [61]⟩
def wHd (op:Int) (n:Str):List kJ:=if op=1 then [kW zz,⟨1,n⟩,eQ] else if op=2 then [⟨1,n⟩,eQ] else if op=3 then [kW zY] else if op=4 then [kW z7] else if op=5 then [kW tIf] else if op=6 then [kW vZ] else if op=7 then [kW vd] else [kW tDo]
def wBr (ws:List kJ):List kJ:=oB::(ws++[cB])
mutual
def wSt:kN→List kJ
 | ⟨op,n,a,b,e⟩=>wHd op n++(aW (a.map (wE 6))++(if op=5∨op=6 then wBr (wSL b)++(if e.isEmpty then [] else kW qG::wBr (wSL e)) else [sC]))
def wSL:List kN→List kJ
 | []=>[]
 | s::l=>wSt s++wSL l
end
theorem wW (s:kN):wSt s=wHd s.op s.name++(aW (s.args.map (wE 6))++(if s.op=5∨s.op=6 then wBr (wSL s.body)++(if s.else_.isEmpty then [] else kW qG::wBr (wSL s.else_)) else [sC])):=by cases s;rw [wSt]
theorem r9:wSL []=[]:=by rw [wSL]
theorem sB (s:kN) (l:List kN):wSL (s::l)=wSt s++wSL l:=by rw [wSL]
theorem yv:∀ (l r:List kN),wSL (l++r)=wSL l++wSL r
 | [],r=>by rw [r9];rfl
 | s::l,r=>by rw [List.cons_append,sB,sB,yv l r,List.append_assoc]
theorem au3 (s:kN):wSL [s]=wSt s:=by rw [sB,r9,List.append_nil]
def wPa (l:List Str):List kJ:=aW (l.map λs=>[(⟨1,s⟩:kJ)])
def wFn (f:Fn_):List kJ:=kW tFn::⟨1,f.name⟩::pL::(wPa f.params++pR::wBr (wSL f.body))
def wFs:List Fn_→List kJ
 | []=>[]
 | f::l=>wFn f++wFs l
theorem zG:∀ (l r:List Fn_),wFs (l++r)=wFs l++wFs r
 | [],r=>rfl
 | s::l,r=>by rw [List.cons_append,wFs,wFs,zG l r,List.append_assoc]
theorem ba7 (op:Int) (n:Str):wHd op n≠[]:=by
 unfold wHd
 repeat' split
 all_goals simp
theorem ar1 (op:Int) (n:Str):(wHd op n).length≤3:=by
 unfold wHd
 repeat' split
 all_goals simp
theorem aq2 (s:kN):wSt s≠[]:=by
 rw [wW]
 exact λh=>ba7 _ _ (List.append_eq_nil_iff.1 h).1
theorem zb {s:kN} (h:hdB s=true):(1≤s.op∧s.op≤8)∧((s.op≠4∧∃ a,s.args=[a]∧nJ a=true)∨(s.op=4∧∃ a b,s.args=[a,b]∧nJ a=true∧nJ b=true))∧((s.op=1∨s.op=2)→lu s.name=true)∧(¬ (s.op=1∨s.op=2)→s.name=mkS [])∧(s.op=8→∃ a,s.args=[a]∧a.op=13)∧(s.else_=[]∨s.op=5)∧(s.body=[]∨s.op=5∨s.op=6):=by
 unfold hdB at h
 simp only [Bool.and_eq_true,decide_eq_true_iff] at h
 obtain ⟨h1,h2,h3,h4,h5,h6,h7⟩:=h
 have hA:(s.op≠4∧∃ a,s.args=[a]∧nJ a=true)∨(s.op=4∧∃ a b,s.args=[a,b]∧nJ a=true∧nJ b=true):=by
  rw [List.all_eq_true] at h4
  by_cases c:s.op=4
  ·have e : w8 s.op = 2 := by unfold w8; rw [if_pos c]
   rw [e] at h2
   match ha:s.args,h2 with
   | [a,b],_=>exact .inr ⟨c,a,b,rfl,h4 a (by rw [ha];simp),h4 b (by rw [ha];simp)⟩
  ·have e : w8 s.op = 1 := by unfold w8; rw [if_neg c]
   rw [e] at h2
   match ha:s.args,h2 with
   | [a],_=>exact .inl ⟨c,a,rfl,h4 a (by rw [ha];simp)⟩
 refine ⟨oJ.1 h1,hA,λhc=>?_,λhc=>?_,λhc=>?_,h6,h7⟩
 ·rw [if_pos hc] at h3;exact h3
 ·rw [if_neg hc,decide_eq_true_iff] at h3;exact h3
 ·have h5:=h5 hc
  rcases hA with ⟨_,a,ha,_⟩ | ⟨h,_⟩
  ·refine ⟨a,ha,?_⟩
   rw [ha] at h5
   simpa using h5
  ·omega
theorem tT {d:Nat} {s:kN} (h:oS (d+1) s=true):hdB s=true∧(∀ x∈s.body,oS d x=true)∧(∀ x∈s.else_,oS d x=true):=by
 rw [oS] at h
 simp only [Bool.and_eq_true,List.all_eq_true] at h
 exact ⟨h.1,h.2.1,h.2.2⟩
theorem si {e:kK} (h:nJ e=true):vW (wE 6 e)∧wE 6 e≠[]∧(wE 6 e).length≤177:=by
 obtain ⟨h1,h2⟩:=tl h
 have:=wX h1
 exact ⟨rz h1,vg h1,by omega⟩
theorem ae4 {s:Str} (h:lu s=true):oZ ⟨1,s⟩=true:=h
theorem ax5 {op:Int} {n:Str} (h:op=1∨op=2→lu n=true):vW (wHd op n):=by
 unfold wHd
 have k:∀ t∈[zz,zY,z7,tIf,qG,vZ,vd,tDo,tFn],oZ (kW t)=true:=by decide +kernel
 split
 ·exact mN (k _ (by simp)) (mN (ae4 (h (.inl ‹_›))) (mN rfl qx))
 split
 ·exact mN (ae4 (h (.inr ‹_›))) (mN rfl qx)
 repeat' split
 all_goals exact mN (k _ (by simp)) qx
theorem tM {ws:List kJ} (h:vW ws):vW (wBr ws):=mN rfl (ql h (mN rfl qx))
theorem pQ (ws:List kJ):(wBr ws).length=ws.length+2:=by simp [wBr]
theorem qF:∀ (d:Nat) (l:List kN),(∀ s∈l,oS d s=true)→vW (wSL l)∧(wSL l).length≤400*nI l:=by
 intro d
 induction d with
 | zero =>
  intro l h
  cases l with
  | nil=>rw [r9];exact ⟨qx,by simp⟩
  | cons s l=>have:=h s (by simp);rw [oS] at this;cases this
 | succ d ih =>
  intro l
  induction l with
  | nil=>intro _;rw [r9];exact ⟨qx,by simp⟩
  | cons s l ihl =>
   intro h
   obtain ⟨g1,g2⟩:=ihl λx hx=>h x (by simp [hx])
   obtain ⟨h1,h2,h3⟩:=tT (h s (by simp))
   obtain ⟨a1,a2⟩:=ih _ h2
   obtain ⟨b1,b2⟩:=ih _ h3
   obtain ⟨i1,i2,i3,_⟩:=zb h1
   have hA:vW (aW (s.args.map (wE 6)))∧(aW (s.args.map (wE 6))).length≤355:=by
    rcases i2 with ⟨_,a,ha,va⟩ | ⟨_,a,b,ha,va,vb⟩
    ·obtain ⟨w1,_,w2⟩:=si va
     rw [ha]
     simp [aW]
     exact ⟨w1,by omega⟩
    ·obtain ⟨w1,_,w2⟩:=si va
     obtain ⟨x1,_,x2⟩:=si vb
     rw [ha]
     simp [aW]
     exact ⟨ql w1 (mN rfl x1),by omega⟩
   have hh:=ar1 s.op s.name
   rw [sB,nd,qI,wW]
   constructor
   ·refine ql (ql (ax5 i3) (ql hA.1 ?_)) g1
    split
    ·refine ql (tM a1) ?_
     split
     ·exact qx
     ·exact mN rfl (tM b1)
    ·exact mN rfl qx
   ·have h2':=hA.2
    have:(if s.op=5∨s.op=6 then wBr (wSL s.body)++(if s.else_.isEmpty then [] else kW qG::wBr (wSL s.else_)) else [sC]).length≤5+(wSL s.body).length+(wSL s.else_).length:=by
     split
     ·rw [List.length_append,pQ]
      split
      ·simp;omega
      ·rw [List.length_cons,pQ];omega
     ·simp;omega
    simp only [List.length_append]
    omega
theorem qa {X:Type} {s t:Str} {f:Str→Option X} {P:X→Prop} (h:s.b.length+t.b.length≤100000000) (k:∀ u:Str,u.b=s.b++t.b→u.b.length=s.b.length+t.b.length→∃ r,f u=some r∧P r):∃ r,(ll s t).bind f=some r∧P r:=by
 obtain ⟨u,u1,u2⟩:=o7 h
 obtain ⟨r,r1,r2⟩:=k u u2 (by rw [u2,List.length_append])
 exact ⟨r,ko u1 r1,r2⟩
theorem sG {X Y:Type} {o:Option Y} {y:Y} {f:Y→Option X} {P:X→Prop} (h:o=some y) (k:∃ r,f y=some r∧P r):∃ r,Option.bind o f=some r∧P r:=by
 obtain ⟨r,r1,r2⟩:=k
 exact ⟨r,ko h r1,r2⟩
theorem bd9 {e:kK} (h:nJ e=true):∃ T,nK e 1=some T∧T.b=txt (wE 6 e)∧T.b.length≤900:=by
 obtain ⟨h1,h2⟩:=tl h
 obtain ⟨T,t1,t2⟩:=bl0 6 e 1 h1 (by omega)
 have hlv:=zg h1
 have e1:decide (lvI e.op<1)=false:=decide_eq_false (by omega)
 rw [e1] at t2
 have t2:T.b=txt (wE 6 e):=t2
 have hl:=rZ h1
 exact ⟨T,t1,t2,by rw [t2];omega⟩
theorem xT {s:Str} (h:lu s=true):s.b.length≤4:=by
 unfold lu at h
 simp only [Bool.and_eq_true,decide_eq_true_iff] at h
 exact h.1.2
def bq1 (l:List kN):Prop:=∃ T,nB l=some T∧T.b=txt (wBr (wSL l))
theorem y6 {ws:List kJ} (h:vW ws):(txt (wBr ws)).length≤5*ws.length+10:=by
 have:=sO _ (tM h)
 rw [pQ] at this
 omega
theorem c_b {l:List UInt8} (h:l.length≤140737488355328):(mkS l h).b.length=l.length:=rfl
theorem bk7 {s:kN} (h:hdB s=true) (hb:bq1 s.body) (he:bq1 s.else_) (lb:(txt (wBr (wSL s.body))).length≤30000000) (le:(txt (wBr (wSL s.else_))).length≤30000000):∃ T,qW s=some T∧T.b=txt (wSt s):=by
  obtain ⟨i1,i2,i3,i4,i5,i6,i7⟩:=zb h
  have hop:s.op=1∨s.op=2∨s.op=3∨s.op=4∨s.op=5∨s.op=6∨s.op=7∨s.op=8:=by omega
  rw [wW]
  obtain ⟨op,nm,args,body,els⟩:=s
  dsimp only at *
  rw [qW]
  dsimp only
  rcases i2 with ⟨n4,a,rfl,va⟩ | ⟨h4,a,b,rfl,va,vb⟩
  · obtain ⟨T,t1,t2,t3⟩:=bd9 va
    obtain ⟨w1,w2,w3⟩:=si va
    have hg:kn [a] 0=some a:=rfl
    have hA:aW ([a].map (wE 6))=wE 6 a:=by simp [aW]
    rw [hA]
    refine sG hg (sG t1 ?_)
    rcases hop with rfl | rfl | rfl | rfl | rfl | rfl | rfl | rfl
    · have hn:=xT (i3 (.inl rfl))
      rw [if_pos (by exact rfl)]
      refine qa (by rw [c_b];simp;omega) λu1 h1 l1=>?_
      rw [c_b] at l1
      simp only [List.length_cons,List.length_nil] at l1
      refine qa (by rw [c_b];simp;omega) λu2 h2 l2=>?_
      rw [c_b] at l2
      simp only [List.length_cons,List.length_nil] at l2
      refine qa (by omega) λu3 h3 l3=>?_
      refine qa (by rw [c_b];simp;omega) λu4 h4 l4=>⟨u4,rfl,?_⟩
      rw [h4,h3,h2,h1,t2]
      show _=txt (kW zz::⟨1,nm⟩::eQ::(wE 6 a++[sC]))
      rw [mS (by simp),mS (by simp),mS (by simp),nt w2 (by simp),oQ]
      simp [mkS,kW,zz,eQ,sC]
    · have hn:=xT (i3 (.inr rfl))
      rw [if_neg (by exact Bool.false_ne_true),if_pos (by exact rfl)]
      refine qa (by rw [c_b];simp;omega) λu2 h2 l2=>?_
      rw [c_b] at l2
      simp only [List.length_cons,List.length_nil] at l2
      refine qa (by omega) λu3 h3 l3=>?_
      refine qa (by rw [c_b];simp;omega) λu4 h4 l4=>⟨u4,rfl,?_⟩
      rw [h4,h3,h2,t2]
      show _=txt (⟨1,nm⟩::eQ::(wE 6 a++[sC]))
      rw [mS (by simp),mS (by simp),nt w2 (by simp),oQ]
      simp [mkS,eQ,sC]
    · rw [if_neg (by exact Bool.false_ne_true), if_neg (by exact Bool.false_ne_true), if_pos (by exact rfl)]
      refine qa (by rw [c_b];simp;omega) λu3 h3 l3=>?_
      rw [c_b] at l3
      simp only [List.length_cons,List.length_nil] at l3
      refine qa (by rw [c_b];simp;omega) λu4 h4 l4=>⟨u4,rfl,?_⟩
      rw [h4,h3,t2]
      show _=txt (kW zY::(wE 6 a++[sC]))
      rw [mS (by simp),nt w2 (by simp),oQ]
      simp [mkS,kW,zY,sC]
    · exact absurd rfl n4
    · rw [if_neg (by exact Bool.false_ne_true), if_neg (by exact Bool.false_ne_true), if_neg (by exact Bool.false_ne_true), if_neg (by exact Bool.false_ne_true), if_neg (by exact Bool.false_ne_true), if_neg (by exact Bool.false_ne_true), if_neg (by exact Bool.false_ne_true)]
      obtain ⟨B,b1,b2⟩:=hb
      obtain ⟨E,e1,e2⟩:=he
      refine qa (by rw [c_b];simp;omega) λu3 h3 l3=>?_
      rw [c_b] at l3
      simp only [List.length_cons,List.length_nil] at l3
      refine qa (by rw [c_b];simp;omega) λu4 h4 l4=>?_
      rw [c_b] at l4
      simp only [List.length_cons,List.length_nil] at l4
      refine sG b1 (qa (by rw [b2];omega) λu5 h5 l5=>?_)
      rw [b2] at l5
      have k5:u5.b=txt (kW tIf::(wE 6 a++wBr (wSL body))):=by
        rw [h5,h4,h3,t2,b2,mS (by simp [wBr]),nt w2 (by simp [wBr])]
        simp [mkS,kW,tIf]
      cases els with
      | nil =>
        refine ⟨u5,rfl,?_⟩
        rw [k5]
        show _=txt (kW tIf::(wE 6 a++(wBr (wSL body)++[])))
        rw [List.append_nil]
      | cons x xs =>
        have hd:decide (0<((x::xs).length:Int))=true:=by simp
        rw [hd,if_pos rfl]
        have:∃ r,((ll u5 (mkS [32,101,108,115,101,32])).bind λuA=>(nB (x::xs)).bind λuB=>(ll uA uB).bind λuC=>some uC)=some r∧r.b=txt ((kW tIf::(wE 6 a++wBr (wSL body)))++kW qG::wBr (wSL (x::xs))):=by
          refine qa (by rw [c_b];simp;omega) λu6 h6 l6=>?_
          rw [c_b] at l6
          simp only [List.length_cons,List.length_nil] at l6
          refine sG e1 (qa (by rw [e2];omega) λu7 h7 l7=>⟨u7,rfl,?_⟩)
          rw [h7,h6,k5,e2,nt (by simp) (by simp),mS (w:=kW qG) (by simp [wBr])]
          simp [mkS,kW,qG]
        obtain ⟨r,r1,r2⟩:=this
        refine ⟨r,ko r1 rfl,?_⟩
        rw [r2]
        show _=txt (kW tIf::(wE 6 a++(wBr (wSL body)++kW qG::wBr (wSL (x::xs)))))
        rw [List.cons_append,List.append_assoc]
    · rw [if_neg (by exact Bool.false_ne_true), if_neg (by exact Bool.false_ne_true), if_neg (by exact Bool.false_ne_true), if_neg (by exact Bool.false_ne_true), if_pos (by exact rfl)]
      obtain ⟨B,b1,b2⟩:=hb
      have hels : els = [] := by rcases i6 with h | h
                                 · exact h
                                 · exact absurd h (by decide)
      subst hels
      refine qa (by rw [c_b];simp;omega) λu3 h3 l3=>?_
      rw [c_b] at l3
      simp only [List.length_cons,List.length_nil] at l3
      refine qa (by rw [c_b];simp;omega) λu4 h4 l4=>?_
      rw [c_b] at l4
      simp only [List.length_cons,List.length_nil] at l4
      refine sG b1 (qa (by rw [b2];omega) λu5 h5 l5=>⟨u5,rfl,?_⟩)
      show _=txt (kW vZ::(wE 6 a++(wBr (wSL body)++[])))
      rw [List.append_nil,h5,h4,h3,t2,b2,mS (by simp [wBr]),nt w2 (by simp [wBr])]
      simp [mkS,kW,vZ]
    · rw [if_neg (by exact Bool.false_ne_true), if_neg (by exact Bool.false_ne_true), if_neg (by exact Bool.false_ne_true), if_neg (by exact Bool.false_ne_true), if_neg (by exact Bool.false_ne_true), if_pos (by exact rfl)]
      refine qa (by rw [c_b];simp;omega) λu3 h3 l3=>?_
      rw [c_b] at l3
      simp only [List.length_cons,List.length_nil] at l3
      refine qa (by rw [c_b];simp;omega) λu4 h4 l4=>⟨u4,rfl,?_⟩
      rw [h4,h3,t2]
      show _=txt (kW vd::(wE 6 a++[sC]))
      rw [mS (by simp),nt w2 (by simp),oQ]
      simp [mkS,kW,vd,sC]
    · rw [if_neg (by exact Bool.false_ne_true), if_neg (by exact Bool.false_ne_true), if_neg (by exact Bool.false_ne_true), if_neg (by exact Bool.false_ne_true), if_neg (by exact Bool.false_ne_true), if_neg (by exact Bool.false_ne_true), if_pos (by exact rfl)]
      refine qa (by rw [c_b];simp;omega) λu3 h3 l3=>?_
      rw [c_b] at l3
      simp only [List.length_cons,List.length_nil] at l3
      refine qa (by rw [c_b];simp;omega) λu4 h4 l4=>⟨u4,rfl,?_⟩
      rw [h4,h3,t2]
      show _=txt (kW tDo::(wE 6 a++[sC]))
      rw [mS (by simp),nt w2 (by simp),oQ]
      simp [mkS,kW,tDo,sC]
  · subst h4
    obtain ⟨T,t1,t2,t3⟩:=bd9 va
    obtain ⟨w1,w2,w3⟩:=si va
    obtain ⟨T',t1',t2',t3'⟩:=bd9 vb
    obtain ⟨w1',w2',w3'⟩:=si vb
    have hg:kn [a,b] 0=some a:=rfl
    have hg1:kn [a,b] 1=some b:=rfl
    have hA:aW ([a,b].map (wE 6))=wE 6 a++cM::wE 6 b:=by simp [aW]
    rw [hA]
    refine sG hg (sG t1 ?_)
    rw [if_neg (by exact Bool.false_ne_true),if_neg (by exact Bool.false_ne_true),if_neg (by exact Bool.false_ne_true),if_pos (by exact rfl)]
    refine qa (by rw [c_b];simp;omega) λu3 h3 l3=>?_
    rw [c_b] at l3
    simp only [List.length_cons,List.length_nil] at l3
    refine qa (by rw [c_b];simp;omega) λu4 h4 l4=>?_
    rw [c_b] at l4
    simp only [List.length_cons,List.length_nil] at l4
    refine sG hg1 (sG t1' (qa (by omega) λu5 h5 l5=>?_))
    refine qa (by rw [c_b];simp;omega) λu6 h6 l6=>⟨u6,rfl,?_⟩
    rw [h6,h5,h4,h3,t2,t2']
    show _=txt (kW z7::(wE 6 a++cM::wE 6 b++[sC]))
    rw [mS (by simp),nt (by simp) (by simp),nt w2 (by simp),mS w2',oQ]
    simp [mkS,kW,z7,sC,cM]
end Prg
end Go.Wk
namespace Go.Wk
open Go
namespace Prg
set_option maxRecDepth 10000
theorem as7 {s:kN}:∀ {l:List kN},s∈l→aw4 s≤nI l
 | x::l,h=>by
  rw [nd]
  rcases List.mem_cons.1 h with rfl | h
  ·omega
  ·have:=as7 h;omega
theorem ah5 {l:List kN} (h:vW (wSL l)∧(wSL l).length≤400*nI l) (hc:nI l≤10000):(txt (wBr (wSL l))).length≤30000000:=by
 have:=y6 h.1
 omega
theorem bi3:∀ (d:Nat) (l:List kN),(∀ s∈l,oS d s=true)→nI l≤10000→bq1 l:=by
 intro d
 induction d with
 | zero =>
  intro l h _
  cases l with
  | nil=>exact ⟨⟨[123,32,125],by decide⟩,by rw [nB];rfl,by rw [r9];rfl⟩
  | cons s l=>have:=h s (by simp);rw [oS] at this;cases this
 | succ d ih =>
  intro l h hc
  have hline:∀ x∈l,∃ T,qW x=some T∧T.b=txt (wSt x):=λx hx=>by
   obtain ⟨h1,h2,h3⟩:=tT (h x hx)
   have hcx:=as7 hx
   rw [qI] at hcx
   exact bk7 h1 (ih _ h2 (by omega)) (ih _ h3 (by omega)) (ah5 (qF d _ h2) (by omega)) (ah5 (qF d _ h3) (by omega))
  have hlen:∀ l' r,l=l'++r→(txt (oB::wSL l')).length≤30000000:=λl' r he=>by
   have h1:=qF (d+1) l' λs hs=>h s (by rw [he];simp [hs])
   have h2:=sO _ (mN (w:=oB) rfl h1.1)
   rw [he,qP] at hc
   simp only [List.length_cons] at h2
   omega
  unfold bq1
  rw [nB]
  rcases mr (xs := l) (body := (fun (uA : Int) (uB : Str) => ((ll uB (mkS [32])).bind fun uC => (kn l uA).bind fun uD => (qW uD).bind fun uE => (ll uC uE).bind fun uF => some (.inl uF) : Option ((Str) ⊕ (Empty))))) (s := (mkS [123])) (fun l' s => s.b = txt (oB :: wSL l')) (fun _ => False) (by rw [r9]; rfl) (fun l' x r s hx hI => .inl (by
   obtain ⟨T,t1,t2⟩:=hline x (by rw [hx];simp)
   have hg:kn l (l'.length:Int)=some x:=by rw [hx,mA]
   have k1:=hlen l' (x::r) hx
   have k2:=hlen (l'++[x]) r (by rw [hx];simp)
   have e:txt (oB::wSL (l'++[x]))=txt (oB::wSL l')++32::txt (wSt x):=by
    rw [yv,au3,← List.cons_append,nt (by simp) (aq2 x)]
   rw [e,List.length_append,List.length_cons] at k2
   have:∃ z,(λ(uA:Int) (uB:Str)=>((ll uB (mkS [32])).bind λuC=>(kn l uA).bind λuD=>(qW uD).bind λuE=>(ll uC uE).bind λuF=>some (.inl uF):Option ((Str) ⊕ (Empty)))) (l'.length:Int) s=some (.inl z)∧z.b=txt (oB::wSL (l'++[x])):=by
    obtain ⟨y,y1,y2⟩:=o7 (s:=s) (t:=mkS [32]) (by rw [hI,c_b];simp;omega)
    obtain ⟨z,z1,z2⟩:=o7 (s:=y) (t:=T) (by rw [y2,List.length_append,hI,t2,c_b];simp;omega)
    refine ⟨z,?_,?_⟩
    ·simp only [y1,hg,t1,z1,obS]
    ·rw [e,z2,y2,hI,t2]
     simp [mkS]
   exact this)) with ⟨s,h1,h2⟩ | ⟨_,_,h2⟩
  ·obtain ⟨z, z1, z2⟩ := o7 (s := s) (t := mkS [32, 125]) (by rw [h2, c_b]; have := hlen l [] (by simp); simp; omega)
   refine ⟨z,?_,?_⟩
   ·rw [h1]
    simp only [obS,Sum.elim_inl,z1]
   ·rw [z2,h2]
    show _=txt (oB::wSL l++[cB])
    rw [nt (by simp) (by simp),oQ]
    simp [mkS,cB]
  ·exact h2.elim
theorem wz {f:Fn_} (h:fnB f=true):lu f.name=true∧f.params.length≤3∧(∀ s∈f.params,lu s=true)∧(∀ s∈f.body,oS 4 s=true):=by
 unfold fnB at h
 simp only [Bool.and_eq_true,decide_eq_true_iff,List.all_eq_true] at h
 exact ⟨h.1,h.2.1,h.2.2.1,h.2.2.2⟩
theorem al6 (l:List Str) (x:Str):wPa (l++[x])=if l=[] then [⟨1,x⟩] else wPa l++[cM,⟨1,x⟩]:=by
 unfold wPa
 rw [List.map_append,List.map_cons,List.map_nil,zD]
 by_cases h:l=[]
 ·subst h;rfl
 ·rw [if_neg (by simpa using h),if_neg h]
theorem bi0:∀ {l:List Str},(∀ s∈l,lu s=true)→vW (wPa l)∧(wPa l).length≤2*l.length:=by
 intro l h
 unfold wPa
 refine ⟨aj0 λx hx=>?_,?_⟩
 ·obtain ⟨s,hs,rfl⟩:=List.mem_map.1 hx
  exact mN (ae4 (h s hs)) qx
 ·have:=bb2 (l.map λs=>[(⟨1,s⟩:kJ)])
  have e:((l.map λs=>[(⟨1,s⟩:kJ)]).map List.length).sum=l.length:=by
   clear this h
   induction l with
   | nil=>rfl
   | cons a l ih=>simp only [List.map_cons,List.sum_cons,ih,List.length_cons,List.length_nil];omega
  rw [e] at this
  simp only [List.length_map] at this
  omega
theorem bi7 {f:Fn_} (h:fnB f=true):vW (wFn f)∧(wFn f).length≤400*nI f.body+12∧wFn f≠[]:=by
 obtain ⟨h1,h2,h3,h4⟩:=wz h
 obtain ⟨a1,a2⟩:=bi0 h3
 obtain ⟨b1,b2⟩:=qF 4 _ h4
 unfold wFn
 refine ⟨mN (w:=kW tFn) (by decide +kernel) (mN (ae4 h1) (mN rfl (ql a1 (mN rfl (tM b1))))),?_,by simp⟩
 simp only [List.length_cons,List.length_append,pQ]
 omega
theorem yQ:∀ {l:List Fn_},(∀ f∈l,fnB f=true)→vW (wFs l)∧(wFs l).length≤400*pM l+12*l.length
 | [],_=>⟨qx,by simp [wFs]⟩
 | f::l,h=>by
  obtain ⟨h1,h2⟩:=yQ (l:=l) λg hg=>h g (by simp [hg])
  obtain ⟨h3,h4,_⟩:=bi7 (h f (by simp))
  rw [wFs,pM]
  refine ⟨ql h3 h1,?_⟩
  simp only [List.length_append,List.length_cons]
  omega
theorem ay4 {p:kp} (hp:pE p=true) (hc:pM p.fns≤1000):∃ T,rL p=some T∧T.b=txt (wFs p.fns):=by
 have hpp:((p.fns.length:Int)≤4)∧∀ f∈p.fns,fnB f=true:=by
  unfold pE at hp
  simp only [Bool.and_eq_true,List.all_eq_true] at hp
  exact ⟨(oJ.1 hp.1).2,hp.2.1⟩
 obtain ⟨hl4,hf⟩:=hpp
 have hlen:∀ l' r,p.fns=l'++r→(txt (wFs l')).length≤5000000:=λl' r he=>by
  have h1:=yQ (l:=l') λg hg=>hf g (by rw [he];simp [hg])
  have h2:=sO _ h1.1
  rw [he,tN] at hc
  rw [he,List.length_append] at hl4
  omega
 unfold rL
 rcases mr (xs := p.fns) (body := (fun (uI : Int) (uJ : Str) => ((kn p.fns uI).bind fun uC => (if decide (0 < uI) then (ll uJ (mkS [32])).bind fun uK => some uK else some uJ : Option (Str)).bind fun uL => (ll uL (mkS [102, 110, 32])).bind fun uM => (ll uM uC.name).bind fun uN => (ll uN (mkS [32, 40])).bind fun uO => (forN (S := Str) (X := Empty) (fun uA uB => (if decide (0 < uA) then (ll uB (mkS [32, 44])).bind fun uD => some uD else some uB : Option (Str)).bind fun uE => (ll uE (mkS [32])).bind fun uF => (kn uC.params uA).bind fun uG => (ll uF uG).bind fun uH => some (.inl uH)) (((uC.params.length : Int) : Int) - 0).toNat 0 uO).bind (Sum.elim (fun uP => (ll uP (mkS [32, 41, 32])).bind fun uQ => (nB uC.body).bind fun uR => (ll uQ uR).bind fun uS => some (.inl uS)) (fun (e0 : Empty) => nomatch e0)) : Option ((Str) ⊕ (Empty))))) (s := (mkS [])) (fun l' s => s.b = txt (wFs l')) (fun _ => False) rfl (fun l' f r s hx hI => .inl (by
  have hff:=hf f (by rw [hx];simp)
  obtain ⟨f1,f2,f3,f4⟩:=wz hff
  obtain ⟨v1,v2,v3⟩:=bi7 hff
  have hg:kn p.fns (l'.length:Int)=some f:=by rw [hx,mA]
  have k1:=hlen l' (f::r) hx
  have hcf:nI f.body≤1000:=by
   rw [hx,tN,pM] at hc
   omega
  have hbt:=ah5 (qF 4 _ f4) (by omega)
  have hbl:=y6 (qF 4 _ f4).1
  have hbl2:=(qF 4 _ f4).2
  obtain ⟨B,b1,b2⟩:=bi3 4 f.body f4 (by omega)
  have hn:=xT f1
  suffices hz:∃ z,(λ(uI:Int) (uJ:Str)=>((kn p.fns uI).bind λuC=>(if decide (0<uI) then (ll uJ (mkS [32])).bind λuK=>some uK else some uJ:Option (Str)).bind λuL=>(ll uL (mkS [102,110,32])).bind λuM=>(ll uM uC.name).bind λuN=>(ll uN (mkS [32,40])).bind λuO=>(forN (S:=Str) (X:=Empty) (λuA uB=>(if decide (0<uA) then (ll uB (mkS [32,44])).bind λuD=>some uD else some uB:Option (Str)).bind λuE=>(ll uE (mkS [32])).bind λuF=>(kn uC.params uA).bind λuG=>(ll uF uG).bind λuH=>some (.inl uH)) (((uC.params.length:Int):Int) - 0).toNat 0 uO).bind (Sum.elim (λuP=>(ll uP (mkS [32,41,32])).bind λuQ=>(nB uC.body).bind λuR=>(ll uQ uR).bind λuS=>some (.inl uS)) (λ(e0:Empty)=>nomatch e0)):Option ((Str) ⊕ (Empty)))) (l'.length:Int) s=some z∧∃ u:Str,z=.inl u∧u.b=txt (wFs (l'++[f])) by
   obtain ⟨z,z1,u,rfl,z2⟩:=hz
   exact ⟨u,z1,z2⟩
  dsimp only
  refine sG hg ?_
  have hS:∃ s1,(if decide (0<(l'.length:Int)) then (ll s (mkS [32])).bind λuK=>some uK else some s:Option Str)=some s1∧(s1.b.length≤5000001∧∀ ws,ws≠[]→s1.b++txt ws=txt (wFs l'++ws)):=by
   by_cases hl0:l'=[]
   ·subst hl0
    refine ⟨s,rfl,by rw [hI];omega,λws _=>?_⟩
    rw [hI];rfl
   ·have hd : decide (0 < (l'.length : Int)) = true := by have := List.length_pos_iff.2 hl0; simp; omega
    rw [hd,if_pos rfl]
    obtain ⟨y,y1,y2⟩:=o7 (s:=s) (t:=mkS [32]) (by rw [hI,c_b];simp;omega)
    refine ⟨y,ko y1 rfl,by rw [y2,List.length_append,hI,c_b];simp;omega,λws hws=>?_⟩
    have hne:wFs l'≠[]:=by
     cases l' with
     | nil=>exact absurd rfl hl0
     | cons a l'=>rw [wFs];intro h;exact absurd (List.append_eq_nil_iff.1 h).1 (by simp [wFn])
    rw [y2,hI,nt hne hws]
    simp [mkS]
  obtain ⟨s1,s2,s3,s4⟩:=hS
  refine sG s2 ?_
  refine qa (by rw [c_b];simp;omega) λu2 h2 l2=>?_
  rw [c_b] at l2
  simp only [List.length_cons,List.length_nil] at l2
  refine qa (by omega) λu3 h3 l3=>?_
  refine qa (by rw [c_b];simp;omega) λu4 h4 l4=>?_
  rw [c_b] at l4
  simp only [List.length_cons,List.length_nil] at l4
  have q4:u4.b=txt (wFs l'++[kW tFn,⟨1,f.name⟩,pL]):=by
   rw [← s4 _ (by simp),h4,h3,h2,mS (by simp),mS (by simp),oQ]
   simp [mkS,kW,tFn,pL]
  rcases mr (xs := f.params) (body := (fun (uA : Int) (uB : Str) => ((if decide (0 < uA) then (ll uB (mkS [32, 44])).bind fun uD => some uD else some uB : Option (Str)).bind fun uE => (ll uE (mkS [32])).bind fun uF => (kn f.params uA).bind fun uG => (ll uF uG).bind fun uH => some (.inl uH) : Option ((Str) ⊕ (Empty))))) (s := u4) (fun l s => s.b = txt (wFs l' ++ [kW tFn, ⟨1, f.name⟩, pL] ++ wPa l) ∧ s.b.length ≤ 5000100 + 10 * l.length) (fun _ => False) ⟨by rw [q4]; simp [wPa, aW], by omega⟩ (fun l x r' s hx' hJ => .inl (by
   obtain ⟨hJ,hJ2⟩:=hJ
   have hnx:=xT (f3 x (by rw [hx'];simp))
   have hl3:l.length+r'.length+1≤3:=by
    have:=congrArg List.length hx'
    simp at this
    omega
   have hg':kn f.params (l.length:Int)=some x:=by rw [hx',mA]
   suffices hz:∃ z,(λ(uA:Int) (uB:Str)=>((if decide (0<uA) then (ll uB (mkS [32,44])).bind λuD=>some uD else some uB:Option (Str)).bind λuE=>(ll uE (mkS [32])).bind λuF=>(kn f.params uA).bind λuG=>(ll uF uG).bind λuH=>some (.inl uH):Option ((Str) ⊕ (Empty)))) (l.length:Int) s=some z∧∃ u:Str,z=.inl u∧(u.b=txt (wFs l'++[kW tFn,⟨1,f.name⟩,pL]++wPa (l++[x]))∧u.b.length≤5000100+10*(l++[x]).length) by
    obtain ⟨z,z1,u,rfl,z2⟩:=hz
    exact ⟨u,z1,z2⟩
   dsimp only
   rw [al6,List.length_append]
   by_cases hl0:l=[]
   ·subst hl0
    rw [if_pos rfl]
    refine sG (y:=s) rfl ?_
    refine qa (by rw [c_b];simp at hJ2 ⊢;omega) λw1 g1 m1=>?_
    rw [c_b] at m1
    simp only [List.length_cons,List.length_nil] at m1 hJ2
    refine sG hg' (qa (by omega) λw2 g2 m2=>⟨_,rfl,w2,rfl,?_,by simp only [List.length_cons,List.length_nil];omega⟩)
    rw [g2,g1,hJ,show wPa ([]:List Str)=[] from rfl,List.append_nil,nt (a:=wFs l'++[kW tFn,⟨1,f.name⟩,pL]) (by simp) (by simp),oQ]
    simp [mkS]
   ·have hd : decide (0 < (l.length : Int)) = true := by have := List.length_pos_iff.2 hl0; simp; omega
    rw [if_neg hl0,hd,if_pos rfl]
    obtain ⟨q,q1,q2⟩:=o7 (s:=s) (t:=mkS [32,44]) (by rw [c_b];simp;omega)
    have q3:q.b.length=s.b.length+2:=by rw [q2,List.length_append];rfl
    refine sG (y:=q) (ko q1 rfl) ?_
    refine qa (by rw [c_b];simp;omega) λw1 g1 m1=>?_
    rw [c_b] at m1
    simp only [List.length_cons,List.length_nil] at m1
    refine sG hg' (qa (by omega) λw2 g2 m2=>⟨_,rfl,w2,rfl,?_,by simp only [List.length_cons,List.length_nil];omega⟩)
    rw [g2,g1,q2,hJ,← List.append_assoc,nt (a:=wFs l'++[kW tFn,⟨1,f.name⟩,pL]++wPa l) (by simp) (by simp),mS (by simp),oQ]
    simp [mkS,cM])) with ⟨s5,h5,h6,h7⟩ | ⟨_,_,h6⟩
  ·refine sG (y:=.inl s5) h5 ?_
   rw [Sum.elim_inl]
   refine qa (by rw [c_b];simp;omega) λu5 h8 l5=>?_
   rw [c_b] at l5
   simp only [List.length_cons,List.length_nil] at l5
   refine sG b1 (qa (by rw [b2];omega) λu6 h9 l6=>⟨_,rfl,u6,rfl,?_⟩)
   rw [h9,h8,h6,b2,zG]
   show _=txt (wFs l'++(kW tFn::⟨1,f.name⟩::pL::(wPa f.params++pR::wBr (wSL f.body))++[]))
   have e:wFs l'++(kW tFn::⟨1,f.name⟩::pL::(wPa f.params++pR::wBr (wSL f.body))++[])=(wFs l'++[kW tFn,⟨1,f.name⟩,pL]++wPa f.params)++pR::wBr (wSL f.body):=by simp
   rw [e,nt (a:=wFs l'++[kW tFn,⟨1,f.name⟩,pL]++wPa f.params) (by simp) (by simp),mS (w:=pR) (by simp [wBr])]
   simp [mkS,pR]
  ·exact h6.elim)) with ⟨s,h1,h2⟩ | ⟨_,_,h2⟩
 ·exact ⟨s,ko h1 rfl,h2⟩
 ·exact h2.elim
end Prg
end Go.Wk
namespace Go.Wk
open Go
namespace Prg
set_option maxRecDepth 10000
theorem aq5 {e:kK} (h:nJ e=true) {list:List kJ} (hl:list.length≤90000):ld list e false=some (list++wE 6 e):=by
 obtain ⟨h1,h2⟩:=tl h
 have:=wX h1
 exact ba8 6 e list false h1 (by omega)
theorem sgK (t:Str):kZ t=some ⟨3,t⟩:=rfl
theorem kyK (t:Str):ky t=some (kW t):=rfl
theorem nmK (t:Str):lW t=some ⟨1,t⟩:=rfl
theorem apK {a b:List kJ} (h:a.length+b.length≤1000000):lD a b=some (a++b):=nC (by omega)
def BwD (l:List kN):Prop:=∀ list:List kJ,list.length+(wSL l).length≤79979→lx list l=some (list++wBr (wSL l))
theorem stW {s:kN} (h:hdB s=true) (hb:BwD s.body) (he:BwD s.else_) {body:List kN} {i:Int} (hi:kn body i=some s) {list:List kJ} (hl:list.length+(wSt s).length≤79980):(λ(vN:Int) (uB:(List kJ))=>(((kn body vN).bind λuA=>((if decide (uA.op=1) then (ky (mkS [108,101,116])).bind λuE=>(lW uA.name).bind λuF=>(kZ (mkS [61])).bind λuG=>(lD uB ([uE,uF,uG]:List kJ)).bind λuH=>some uH else (if decide (uA.op=2) then (lW uA.name).bind λuI=>(kZ (mkS [61])).bind λuJ=>(lD uB ([uI,uJ]:List kJ)).bind λuK=>some uK else (if decide (uA.op=3) then (ky (mkS [115,97,121])).bind λuL=>(lD uB ([uL]:List kJ)).bind λuM=>some uM else (if decide (uA.op=4) then (ky (mkS [112,117,116])).bind λuN=>(lD uB ([uN]:List kJ)).bind λuO=>some uO else (if decide (uA.op=5) then (ky (mkS [105,102])).bind λuP=>(lD uB ([uP]:List kJ)).bind λuQ=>some uQ else (if decide (uA.op=6) then (ky (mkS [108,111,111,112])).bind λuR=>(lD uB ([uR]:List kJ)).bind λuS=>some uS else (if decide (uA.op=7) then (ky (mkS [98,97,99,107])).bind λuT=>(lD uB ([uT]:List kJ)).bind λuU=>some uU else (if decide (uA.op=8) then (ky (mkS [100,111])).bind λuV=>(lD uB ([uV]:List kJ)).bind λuW=>some uW else some uB:Option ((List kJ))).bind λuX=>some uX:Option ((List kJ))).bind λuY=>some uY:Option ((List kJ))).bind λuZ=>some uZ:Option ((List kJ))).bind λvA=>some vA:Option ((List kJ))).bind λvB=>some vB:Option ((List kJ))).bind λvC=>some vC:Option ((List kJ))).bind λvE=>some vE:Option ((List kJ))).bind λvF=>some vF:Option ((List kJ))).bind λvO=>(forN (S:=(List kJ)) (X:=Empty) (λuC uD=>(kn uA.args uC).bind λvG=>(if decide (0<uC) then (kZ (mkS [44])).bind λvH=>(lD uD ([vH]:List kJ)).bind λvI=>some vI else some uD:Option ((List kJ))).bind λvJ=>(ld vJ vG false).bind λvK=>some (.inl vK)) (((uA.args.length:Int):Int) - 0).toNat 0 vO).bind (Sum.elim (λvL=>(if decide (uA.op≠5) then some (decide (uA.op≠6)) else some false:Option (Bool)).bind λvP=>if vP then (kZ (mkS [59])).bind λvQ=>(lD vL ([vQ]:List kJ)).bind λvR=>some vR else (lx vL uA.body).bind λvM=>(if decide (0<((uA.else_.length:Int))) then (ky (mkS [101,108,115,101])).bind λvS=>(lD vM ([vS]:List kJ)).bind λvT=>(lx vT uA.else_).bind λvU=>some vU else some vM:Option ((List kJ))).bind λvV=>some vV) (λ(e0:Empty)=>nomatch e0)):Option ((List kJ))).bind λvX=>some (.inl vX):Option (((List kJ)) ⊕ (Empty)))) i list=some (.inl (list++wSt s)):=by
 obtain ⟨i1,i2,i3,i4,i5,i6,i7⟩:=zb h
 have hop:s.op=1∨s.op=2∨s.op=3∨s.op=4∨s.op=5∨s.op=6∨s.op=7∨s.op=8:=by omega
 rw [wW] at hl ⊢
 obtain ⟨op,nm,args,body',els⟩:=s
 dsimp only at *
 have hhl:=ar1 op nm
 have hH:((if decide (op=1) then (ky (mkS [108,101,116])).bind λuE=>(lW nm).bind λuF=>(kZ (mkS [61])).bind λuG=>(lD list ([uE,uF,uG]:List kJ)).bind λuH=>some uH else (if decide (op=2) then (lW nm).bind λuI=>(kZ (mkS [61])).bind λuJ=>(lD list ([uI,uJ]:List kJ)).bind λuK=>some uK else (if decide (op=3) then (ky (mkS [115,97,121])).bind λuL=>(lD list ([uL]:List kJ)).bind λuM=>some uM else (if decide (op=4) then (ky (mkS [112,117,116])).bind λuN=>(lD list ([uN]:List kJ)).bind λuO=>some uO else (if decide (op=5) then (ky (mkS [105,102])).bind λuP=>(lD list ([uP]:List kJ)).bind λuQ=>some uQ else (if decide (op=6) then (ky (mkS [108,111,111,112])).bind λuR=>(lD list ([uR]:List kJ)).bind λuS=>some uS else (if decide (op=7) then (ky (mkS [98,97,99,107])).bind λuT=>(lD list ([uT]:List kJ)).bind λuU=>some uU else (if decide (op=8) then (ky (mkS [100,111])).bind λuV=>(lD list ([uV]:List kJ)).bind λuW=>some uW else some list:Option ((List kJ))).bind λuX=>some uX:Option ((List kJ))).bind λuY=>some uY:Option ((List kJ))).bind λuZ=>some uZ:Option ((List kJ))).bind λvA=>some vA:Option ((List kJ))).bind λvB=>some vB:Option ((List kJ))).bind λvC=>some vC:Option ((List kJ))).bind λvE=>some vE:Option ((List kJ))).bind λvF=>some vF:Option ((List kJ)))=some (list++wHd op nm):=by
  have a3:∀ x y z:kJ,lD list [x,y,z]=some (list++[x,y,z]):=λ_ _ _=>apK (by simp at hl ⊢;omega)
  have a2:∀ x y:kJ,lD list [x,y]=some (list++[x,y]):=λ_ _=>apK (by simp at hl ⊢;omega)
  have a1:∀ x:kJ,lD list [x]=some (list++[x]):=λ_=>apK (by simp at hl ⊢;omega)
  simp only [kyK,nmK,sgK,obS,a1,a2,a3]
  rcases hop with rfl | rfl | rfl | rfl | rfl | rfl | rfl | rfl<;>rfl
 refine ko (ko hi (ko hH ?_)) rfl
 have hl1:list.length+(wHd op nm).length≤80000:=by
  simp only [List.length_append] at hl
  omega
 have hA:forN (S:=List kJ) (X:=Empty) (λuC uD=>(kn args uC).bind λvG=>(if decide (0<uC) then (kZ (mkS [44])).bind λvH=>(lD uD ([vH]:List kJ)).bind λvI=>some vI else some uD:Option ((List kJ))).bind λvJ=>(ld vJ vG false).bind λvK=>some (.inl vK)) (((args.length:Int):Int) - 0).toNat 0 (list++wHd op nm)=some (.inl (list++wHd op nm++aW (args.map (wE 6)))):=by
  generalize hL:list++wHd op nm=L
  have hLl:L.length≤80000:=by rw [← hL,List.length_append];exact hl1
  rcases i2 with ⟨_,a,rfl,va⟩ | ⟨_,a,b,rfl,va,vb⟩
  ·have w1 := aq5 va (list := L) (by omega)
   have e1:(([a].length:Int) - 0).toNat=1:=rfl
   rw [e1,tR (s':=L++wE 6 a) (by
    show (some a).bind _=_
    simp only [obS,show decide ((0:Int)<0)=false from rfl,Bool.false_eq_true,if_false,w1])]
   simp only [List.map_cons,List.map_nil,aW,List.flatten_nil,List.append_nil]
   rfl
  ·have w1 := aq5 va (list := L) (by omega)
   obtain ⟨_,_,l1⟩:=si va
   have a1:lD (L++wE 6 a) [(⟨3,mkS [44]⟩:kJ)]=some (L++wE 6 a++[cM]):=apK (by simp;omega)
   have w2:=aq5 vb (list:=L++wE 6 a++[cM]) (by simp;omega)
   have e2:(([a,b].length:Int) - 0).toNat=2:=rfl
   rw [e2,tR (s':=L++wE 6 a) (by
    show (some a).bind _=_
    simp only [obS,show decide ((0:Int)<0)=false from rfl,Bool.false_eq_true,if_false,w1]),tR (s':=L++wE 6 a++[cM]++wE 6 b) (by
    show (some b).bind _=_
    simp only [obS,show decide ((0:Int)<0+1)=true from rfl,if_true,sgK,a1,w2])]
   simp only [List.map_cons,List.map_nil,aW,List.flatten_nil,List.append_nil,List.flatten_cons,List.append_assoc,List.cons_append,List.nil_append]
   rfl
 refine ko hA ?_
 rw [Sum.elim_inl]
 have hal:(list++wHd op nm++aW (args.map (wE 6))).length+(if op=5∨op=6 then wBr (wSL body')++(if els.isEmpty then [] else kW qG::wBr (wSL els)) else [sC]).length≤79980:=by
  simp only [List.length_append] at hl ⊢
  omega
 have eL:list++(wHd op nm++(aW (args.map (wE 6))++(if op=5∨op=6 then wBr (wSL body')++(if els.isEmpty then [] else kW qG::wBr (wSL els)) else [sC])))=list++wHd op nm++aW (args.map (wE 6))++(if op=5∨op=6 then wBr (wSL body')++(if els.isEmpty then [] else kW qG::wBr (wSL els)) else [sC]):=by simp only [List.append_assoc]
 rw [eL]
 generalize list++wHd op nm++aW (args.map (wE 6))=M at hal
 by_cases c:op=5∨op=6
 ·rw [if_pos c] at hal ⊢
  have hg:(if decide (op≠5) then some (decide (op≠6)) else some false:Option Bool)=some false:=by rcases c with rfl | rfl<;>rfl
  refine ko hg ?_
  rw [if_neg Bool.false_ne_true]
  rw [List.length_append,pQ] at hal
  refine ko (hb M (by omega)) ?_
  cases els with
  | nil =>
   have:M++(wBr (wSL body')++(if ([]:List kN).isEmpty then [] else kW qG::wBr (wSL ([]:List kN))))=M++wBr (wSL body'):=by simp
   rw [this];rfl
  | cons x xs =>
   have hd:decide (0<((x::xs).length:Int))=true:=by simp
   have h0:(x::xs).isEmpty=false:=rfl
   rw [h0,if_neg Bool.false_ne_true,List.length_cons,pQ] at hal
   rw [hd,if_pos rfl,h0,if_neg Bool.false_ne_true]
   refine ko (ko (kyK _) (ko (apK (by simp [pQ];omega)) (ko (he _ (by simp [pQ];omega)) rfl))) ?_
   simp [qG]
 ·rw [if_neg c] at hal ⊢
  have hg:(if decide (op≠5) then some (decide (op≠6)) else some false:Option Bool)=some true:=by
   have h5:decide (op≠5)=true:=decide_eq_true λh=>c (.inl h)
   have h6:decide (op≠6)=true:=decide_eq_true λh=>c (.inr h)
   rw [h5,h6];rfl
  refine ko hg ?_
  rw [if_pos rfl]
  exact ko (sgK _) (ko (apK (by simp at hal ⊢;omega)) rfl)
theorem bv5:∀ (d:Nat) (l:List kN),(∀ s∈l,oS d s=true)→BwD l:=by
 intro d
 induction d with
 | zero =>
  intro l h
  cases l with
  | nil =>
   intro list hl
   rw [lx]
   have e:pe (list++[oB]) []=some (list++[oB]):=by rw [pe];rfl
   refine ko (sgK _) (ko (apK (by simp;omega)) (ko e (ko (sgK _) (ko (apK (by simp;omega)) ?_))))
   rw [r9];simp [wBr,cB,oB]
  | cons s l=>have:=h s (by simp);rw [oS] at this;cases this
 | succ d ih =>
  intro l h list hl
  have key:∀ L:List kJ,L.length+(wSL l).length≤79980→pe L l=some (L++wSL l):=by
   intro L hL
   rw [pe]
   rcases mr (xs := l) (body := (fun (uG : Int) (uB : (List kJ)) => (((kn l uG).bind fun uA => ((if decide (uA.op = 1) then (ky (mkS [108, 101, 116])).bind fun uH => (lW uA.name).bind fun uI => (kZ (mkS [61])).bind fun uJ => (lD uB ([uH, uI, uJ] : List kJ)).bind fun uK => some uK else (if decide (uA.op = 2) then (lW uA.name).bind fun uL => (kZ (mkS [61])).bind fun uM => (lD uB ([uL, uM] : List kJ)).bind fun uN => some uN else (if decide (uA.op = 3) then (ky (mkS [115, 97, 121])).bind fun uO => (lD uB ([uO] : List kJ)).bind fun uP => some uP else (if decide (uA.op = 4) then (ky (mkS [112, 117, 116])).bind fun uQ => (lD uB ([uQ] : List kJ)).bind fun uR => some uR else (if decide (uA.op = 5) then (ky (mkS [105, 102])).bind fun uS => (lD uB ([uS] : List kJ)).bind fun uT => some uT else (if decide (uA.op = 6) then (ky (mkS [108, 111, 111, 112])).bind fun uU => (lD uB ([uU] : List kJ)).bind fun uV => some uV else (if decide (uA.op = 7) then (ky (mkS [98, 97, 99, 107])).bind fun uW => (lD uB ([uW] : List kJ)).bind fun uX => some uX else (if decide (uA.op = 8) then (ky (mkS [100, 111])).bind fun uY => (lD uB ([uY] : List kJ)).bind fun uZ => some uZ else some uB : Option ((List kJ))).bind fun vA => some vA : Option ((List kJ))).bind fun vB => some vB : Option ((List kJ))).bind fun vC => some vC : Option ((List kJ))).bind fun vE => some vE : Option ((List kJ))).bind fun vF => some vF : Option ((List kJ))).bind fun vG => some vG : Option ((List kJ))).bind fun vH => some vH : Option ((List kJ))).bind fun vI => some vI : Option ((List kJ))).bind fun vJ => (forN (S := (List kJ)) (X := Empty) (fun uC uD => (kn uA.args uC).bind fun vK => (if decide (0 < uC) then (kZ (mkS [44])).bind fun vL => (lD uD ([vL] : List kJ)).bind fun vM => some vM else some uD : Option ((List kJ))).bind fun vN => (ld vN vK false).bind fun vO => some (.inl vO)) (((uA.args.length : Int) : Int) - 0).toNat 0 vJ).bind (Sum.elim (fun uE => (if decide (uA.op ≠ 5) then some (decide (uA.op ≠ 6)) else some false : Option (Bool)).bind fun vP => if vP then (kZ (mkS [59])).bind fun vQ => (lD uE ([vQ] : List kJ)).bind fun vR => some vR else (lx uE uA.body).bind fun uF => (if decide (0 < ((uA.else_.length : Int))) then (ky (mkS [101, 108, 115, 101])).bind fun vS => (lD uF ([vS] : List kJ)).bind fun vT => (lx vT uA.else_).bind fun vU => some vU else some uF : Option ((List kJ))).bind fun vV => some vV) (fun (e0 : Empty) => nomatch e0)) : Option ((List kJ))).bind fun vX => some (.inl vX) : Option (((List kJ)) ⊕ (Empty))))) (s := L) (fun l' s => s = L ++ wSL l') (fun _ => False) (by rw [r9, List.append_nil]) (fun l' x r s hx hI => .inl (by
    subst hI
    obtain ⟨h1,h2,h3⟩:=tT (h x (by rw [hx];simp))
    refine ⟨_,stW h1 (ih _ h2) (ih _ h3) (by rw [hx,mA]) ?_,?_⟩
    ·rw [hx,yv,sB,List.length_append,List.length_append] at hL
     rw [List.length_append]
     omega
    ·rw [yv,au3,List.append_assoc])) with ⟨s,h1,h2⟩ | ⟨_,_,h2⟩
   ·subst h2
    exact ko h1 rfl
   ·exact h2.elim
  rw [lx]
  refine ko (sgK _) (ko (apK (by simp;omega)) ?_)
  refine ko (key _ (by simp;omega)) (ko (sgK _) (ko (apK (by simp;omega)) ?_))
  simp [wBr,cB,oB]
theorem fnW {p:kp} {f:Fn_} (hf:fnB f=true) {i:Int} (hi:kn p.fns i=some f) {list:List kJ} (hl:list.length+(wFn f).length≤79000):(λ(uJ:Int) (uK:(List kJ))=>((kn p.fns uJ).bind λuC=>(ky (mkS [102,110])).bind λuL=>(lW uC.name).bind λuM=>(kZ (mkS [40])).bind λuN=>(lD uK ([uL,uM,uN]:List kJ)).bind λuO=>(forN (S:=(List kJ)) (X:=Empty) (λuA uB=>(kn uC.params uA).bind λuD=>(if decide (0<uA) then (kZ (mkS [44])).bind λuE=>(lD uB ([uE]:List kJ)).bind λuF=>some uF else some uB:Option ((List kJ))).bind λuG=>(lW uD).bind λuH=>(lD uG ([uH]:List kJ)).bind λuI=>some (.inl uI)) (((uC.params.length:Int):Int) - 0).toNat 0 uO).bind (Sum.elim (λuP=>(kZ (mkS [41])).bind λuQ=>(lD uP ([uQ]:List kJ)).bind λuR=>(lx uR uC.body).bind λuS=>some (.inl uS)) (λ(e0:Empty)=>nomatch e0)):Option (((List kJ)) ⊕ (Empty)))) i list=some (.inl (list++wFn f)):=by
 obtain ⟨f1,f2,f3,f4⟩:=wz hf
 have hl2:list.length+(wPa f.params).length+(wSL f.body).length≤78995:=by
  unfold wFn at hl
  simp only [List.length_cons,List.length_append,pQ] at hl
  omega
 have h1:lD list [kW tFn,⟨1,f.name⟩,⟨3,mkS [40]⟩]=some (list++[kW tFn,⟨1,f.name⟩,pL]):=apK (by simp;omega)
 refine ko hi (ko (kyK _) (ko (nmK _) (ko (sgK _) (ko h1 ?_))))
 generalize hL:list++[kW tFn,⟨1,f.name⟩,pL]=L
 have hLl:L.length=list.length+3:=by rw [← hL];simp
 rcases mr (xs := f.params) (body := (fun (uA : Int) (uB : (List kJ)) => ((kn f.params uA).bind fun uD => (if decide (0 < uA) then (kZ (mkS [44])).bind fun uE => (lD uB ([uE] : List kJ)).bind fun uF => some uF else some uB : Option ((List kJ))).bind fun uG => (lW uD).bind fun uH => (lD uG ([uH] : List kJ)).bind fun uI => some (.inl uI) : Option (((List kJ)) ⊕ (Empty))))) (s := L) (fun l s => s = L ++ wPa l) (fun _ => False) (by simp [wPa, aW]) (fun l x r s hx hI => .inl (by
  subst hI
  have hg:kn f.params (l.length:Int)=some x:=by rw [hx,mA]
  have hll:=(bi0 (l:=l) λs hs=>f3 s (by rw [hx];simp [hs])).2
  have hl3:l.length+r.length+1≤3:=by
   have:=congrArg List.length hx
   simp at this
   omega
  rw [al6]
  by_cases hl0:l=[]
  ·subst hl0
   have a1:lD (L++wPa []) [(⟨1,x⟩:kJ)]=some (L++wPa []++[⟨1,x⟩]):=apK (by simp [wPa,aW];omega)
   refine ⟨_,ko hg (ko rfl (ko (nmK _) (ko a1 rfl))),?_⟩
   rw [if_pos rfl]
   simp [wPa,aW]
  ·have hd : decide (0 < (l.length : Int)) = true := by have := List.length_pos_iff.2 hl0; simp; omega
   have a1:lD (L++wPa l) [(⟨3,mkS [44]⟩:kJ)]=some (L++wPa l++[cM]):=apK (by simp;omega)
   have a2:lD (L++wPa l++[cM]) [(⟨1,x⟩:kJ)]=some (L++wPa l++[cM]++[⟨1,x⟩]):=apK (by simp;omega)
   rw [hd,if_pos rfl,if_neg hl0]
   refine ⟨_,ko hg (ko (ko (sgK _) (ko a1 rfl)) (ko (nmK _) (ko a2 rfl))),?_⟩
   simp)) with ⟨s,h3,h4⟩ | ⟨_,_,h4⟩
 ·subst h4
  refine ko h3 ?_
  rw [Sum.elim_inl]
  have a1:lD (L++wPa f.params) [(⟨3,mkS [41]⟩:kJ)]=some (L++wPa f.params++[pR]):=apK (by simp;omega)
  have a2:=bv5 4 f.body f4 (L++wPa f.params++[pR]) (by simp;omega)
  refine ko (sgK _) (ko a1 (ko a2 ?_))
  rw [← hL]
  unfold wFn
  simp
 ·exact h4.elim
theorem aj4 {p:kp} (hp:pE p=true) (hc:pM p.fns≤150):mh p=some (sY (wFs p.fns)):=by
 have hpp:((p.fns.length:Int)≤4)∧∀ f∈p.fns,fnB f=true:=by
  have hp:=hp
  unfold pE at hp
  simp only [Bool.and_eq_true,List.all_eq_true] at hp
  exact ⟨(oJ.1 hp.1).2,hp.2.1⟩
 obtain ⟨hl4,hf⟩:=hpp
 have hv:=yQ hf
 unfold mh
 rw [wc,obS,hp]
 simp only [Bool.not_true,Bool.false_eq_true,if_false]
 rcases mr (xs := p.fns) (body := (fun (uD : Int) (uE : (List kJ)) => ((kn p.fns uD).bind fun uA => (ky (mkS [102, 110])).bind fun uF => (lW uA.name).bind fun uG => (kZ (mkS [40])).bind fun uH => (lD uE ([uF, uG, uH] : List kJ)).bind fun uI => (forN (S := (List kJ)) (X := Empty) (fun uB uC => (kn uA.params uB).bind fun uJ => (if decide (0 < uB) then (kZ (mkS [44])).bind fun uK => (lD uC ([uK] : List kJ)).bind fun uL => some uL else some uC : Option ((List kJ))).bind fun uM => (lW uJ).bind fun uN => (lD uM ([uN] : List kJ)).bind fun uO => some (.inl uO)) (((uA.params.length : Int) : Int) - 0).toNat 0 uI).bind (Sum.elim (fun uP => (kZ (mkS [41])).bind fun uQ => (lD uP ([uQ] : List kJ)).bind fun uR => (lx uR uA.body).bind fun uS => some (.inl uS)) (fun (e0 : Empty) => nomatch e0)) : Option (((List kJ)) ⊕ (Empty))))) (s := ([] : List kJ)) (fun l s => s = wFs l) (fun _ => False) rfl (fun l f r s hx hI => .inl (by
  subst hI
  refine ⟨_,fnW (hf f (by rw [hx];simp)) (by rw [hx,mA]) ?_,?_⟩
  ·have h2:=hv.2
   rw [hx,zG,wFs,List.length_append,List.length_append] at h2
   rw [hx] at hc hl4
   simp only [List.length_append,List.length_cons] at hl4 h2
   omega
  ·rw [zG,wFs,wFs,List.append_nil])) with ⟨s,h1,h2⟩ | ⟨_,_,h2⟩
 ·subst h2
  refine ko h1 ?_
  rw [Sum.elim_inl]
  exact ko (au9 _ hv.1) rfl
 ·exact h2.elim
theorem ah9 {p:kp} (hp:pE p=false):mh p=some (mkS [],false):=by
 unfold mh
 rw [wc,obS,hp];rfl
end Prg
end Go.Wk
namespace Go.Wk
open Go
namespace Prg
set_option maxRecDepth 10000
theorem cb8:∀ (k:Nat) (acc:List Str) (ws:List kJ),ws.length+1≤k→vW ws→acc.length+ws.length≤1000 →
      (∀ (r0:k8) (n:Nat),r0.list.length≤1000→vW r0.list→AtW r0.list n ws→match pP k acc ws with
        | some p=>∃ (m:Nat) (w:kJ),AtW r0.list m (w::p.2)∧w.text=mkS [41]∧lH (λ(uA:Int × (List Str))=>((if decide (0≤uA.1) then (lN (⟨r0.list,uA.1⟩:k8) (mkS [41])).bind λuD=>some (!(uD)) else some false:Option (Bool)).bind λuB=>if uB then (if decide (0<((uA.2.length:Int))) then (kU (⟨r0.list,uA.1⟩:k8) (mkS [44])).bind λuE=>some uE.at_ else some uA.1:Option (Int)).bind λuF=>(l9 (⟨r0.list,uF⟩:k8)).bind λuC=>(lD uA.2 ([uC.1]:List Str)).bind λuG=>some (.inl (uC.2.at_,uG)) else some (.inr (uA.1,uA.2)):Option ((Int × (List Str)) ⊕ (Int × (List Str))))) ((n:Int),acc)=some ((m:Int),p.1)
        | none=>∃ acc',lH (λ(uA:Int × (List Str))=>((if decide (0≤uA.1) then (lN (⟨r0.list,uA.1⟩:k8) (mkS [41])).bind λuD=>some (!(uD)) else some false:Option (Bool)).bind λuB=>if uB then (if decide (0<((uA.2.length:Int))) then (kU (⟨r0.list,uA.1⟩:k8) (mkS [44])).bind λuE=>some uE.at_ else some uA.1:Option (Int)).bind λuF=>(l9 (⟨r0.list,uF⟩:k8)).bind λuC=>(lD uA.2 ([uC.1]:List Str)).bind λuG=>some (.inl (uC.2.at_,uG)) else some (.inr (uA.1,uA.2)):Option ((Int × (List Str)) ⊕ (Int × (List Str))))) ((n:Int),acc)=some (-1,acc')) ∧
      (match pP k acc ws with
        | some p=>lH (λ(uA:(List kJ) × Bool × (List Str))=>((if !(uA.2.1) then (kV (⟨uA.1,uA.2.1⟩:kM) 3 (mkS [41])).bind λuD=>some (uD.2.list,uD.2.bad,!(uD.1)) else some (uA.1,uA.2.1,false):Option ((List kJ) × Bool × Bool)).bind λuB=>if uB.2.2 then (if decide (0<((uA.2.2.length:Int))) then (kP (⟨uB.1,uB.2.1⟩:kM) 3 (mkS [44])).bind λuE=>some (uE.list,uE.bad) else some (uB.1,uB.2.1):Option ((List kJ) × Bool)).bind λuF=>(kv (⟨uF.1,uF.2⟩:kM)).bind λuC=>(lD uA.2.2 ([uC.1]:List Str)).bind λuG=>some (.inl (uC.2.list,uC.2.bad,uG)) else some (.inr (uB.1,uB.2.1,uA.2.2)):Option (((List kJ) × Bool × (List Str)) ⊕ ((List kJ) × Bool × (List Str))))) (ws,false,acc)=some (p.2,false,p.1)
        | none=>∃ acc' ws',lH (λ(uA:(List kJ) × Bool × (List Str))=>((if !(uA.2.1) then (kV (⟨uA.1,uA.2.1⟩:kM) 3 (mkS [41])).bind λuD=>some (uD.2.list,uD.2.bad,!(uD.1)) else some (uA.1,uA.2.1,false):Option ((List kJ) × Bool × Bool)).bind λuB=>if uB.2.2 then (if decide (0<((uA.2.2.length:Int))) then (kP (⟨uB.1,uB.2.1⟩:kM) 3 (mkS [44])).bind λuE=>some (uE.list,uE.bad) else some (uB.1,uB.2.1):Option ((List kJ) × Bool)).bind λuF=>(kv (⟨uF.1,uF.2⟩:kM)).bind λuC=>(lD uA.2.2 ([uC.1]:List Str)).bind λuG=>some (.inl (uC.2.list,uC.2.bad,uG)) else some (.inr (uB.1,uB.2.1,uA.2.2)):Option (((List kJ) × Bool × (List Str)) ⊕ ((List kJ) × Bool × (List Str))))) (ws,false,acc)=some (ws',true,acc')):=by
  intro k
  induction k with
  | zero=>intro acc ws h;omega
  | succ k ih =>
    intro acc ws hk hv hl
    have hlt:∀ x:Str,acc.length+[x].length≤2147483648:=λx=>by simp;omega
    have e2:decide (0<(acc.length:Int))=!decide (acc=[]):=by cases acc<;>simp
    have htk:=ud hv (t:=mkS [41]) rfl (by decide)
    rw [pP]
    refine ⟨λr0 n hll hvl ha=>?_,?_⟩
    · have e0 : decide (0 ≤ (n : Int)) = true := by simp
      by_cases ht:isT ws (mkS [41])=true
      · rw [if_pos ht]
        cases ws with
        | nil=>cases ht
        | cons w r =>
          refine ⟨n,w,ha,by simpa [isT] using ht,lJ ?_⟩
          dsimp only
          rw [if_pos e0,sIs ha,ht];rfl
      · have ht : isT ws (mkS [41]) = false := by simpa using ht
        rw [if_neg (by simp [ht])]
        have hw:SpW r0.list (if acc=[] then some ws else wT (mkS [44]) ws) ((if decide (0<(acc.length:Int)) then (kU ⟨r0.list,(n:Int)⟩ (mkS [44])).bind λr=>some r.at_ else some (n:Int)).bind λa=>some ⟨r0.list,a⟩):=by
          rw [e2]
          by_cases h0:acc=[]
          · rw [if_pos h0,decide_eq_true h0]
            exact ⟨n,ha,rfl⟩
          · rw [if_neg h0,decide_eq_false h0]
            have h1:=ug hll ha (mkS [44])
            cases hq:wT (mkS [44]) ws with
            | none =>
              rw [hq] at h1
              show _=_
              simp only [Bool.not_false,if_true]
              rw [show kU ⟨r0.list,(n:Int)⟩ (mkS [44])=some ⟨r0.list,-1⟩ from h1];rfl
            | some q =>
              rw [hq] at h1
              obtain ⟨m,a1,h1⟩:=h1
              refine ⟨m,a1,?_⟩
              simp only [Bool.not_false,if_true]
              rw [h1];rfl
        obtain ⟨z,hz⟩:∃ z:Int,(if decide (0<(acc.length:Int))=true then (kU ⟨r0.list,(n:Int)⟩ (mkS [44])).bind λr=>some r.at_ else some (n:Int))=some z:=by
          cases hx:(if decide (0<(acc.length:Int))=true then (kU ⟨r0.list,(n:Int)⟩ (mkS [44])).bind λr=>some r.at_ else some (n:Int)) with
          | some z=>exact ⟨z,rfl⟩
          | none =>
            rw [hx] at hw
            cases hy:(if acc=[] then some ws else wT (mkS [44]) ws) with
            | none=>rw [hy] at hw;cases hw
            | some q=>rw [hy] at hw;obtain ⟨m,_,h⟩:=hw;cases h
        rw [hz,obS] at hw
        have step:∀ (x:Str) (y:Int),l9 ⟨r0.list,z⟩=some (x,⟨r0.list,y⟩)→lH (λ(uA:Int × (List Str))=>((if decide (0≤uA.1) then (lN (⟨r0.list,uA.1⟩:k8) (mkS [41])).bind λuD=>some (!(uD)) else some false:Option (Bool)).bind λuB=>if uB then (if decide (0<((uA.2.length:Int))) then (kU (⟨r0.list,uA.1⟩:k8) (mkS [44])).bind λuE=>some uE.at_ else some uA.1:Option (Int)).bind λuF=>(l9 (⟨r0.list,uF⟩:k8)).bind λuC=>(lD uA.2 ([uC.1]:List Str)).bind λuG=>some (.inl (uC.2.at_,uG)) else some (.inr (uA.1,uA.2)):Option ((Int × (List Str)) ⊕ (Int × (List Str))))) ((n:Int),acc)=lH (λ(uA:Int × (List Str))=>((if decide (0≤uA.1) then (lN (⟨r0.list,uA.1⟩:k8) (mkS [41])).bind λuD=>some (!(uD)) else some false:Option (Bool)).bind λuB=>if uB then (if decide (0<((uA.2.length:Int))) then (kU (⟨r0.list,uA.1⟩:k8) (mkS [44])).bind λuE=>some uE.at_ else some uA.1:Option (Int)).bind λuF=>(l9 (⟨r0.list,uF⟩:k8)).bind λuC=>(lD uA.2 ([uC.1]:List Str)).bind λuG=>some (.inl (uC.2.at_,uG)) else some (.inr (uA.1,uA.2)):Option ((Int × (List Str)) ⊕ (Int × (List Str))))) (y,acc++[x]):=by
          intro x y hn
          refine mQ ?_
          dsimp only
          rw [if_pos e0,sIs ha,ht]
          simp only [obS,Bool.not_false,if_true]
          rw [hz,obS,hn,obS,nC (hlt x)];rfl
        cases hy:(if acc=[] then some ws else wT (mkS [44]) ws) with
        | none =>
          rw [hy] at hw
          have hz1:z=-1:=by
            have:=Option.some.inj hw
            exact congrArg k8.at_ this
          rw [Option.bind_none]
          refine ⟨acc++[mkS []],?_⟩
          rw [step (mkS []) (-1) (by rw [hz1];exact bi9 _)]
          exact lJ rfl
        | some q =>
          rw [hy] at hw
          obtain ⟨m,a1,hw⟩:=hw
          have hz1:z=(m:Int):=congrArg k8.at_ (Option.some.inj hw)
          have h2:=av2 hll a1
          rw [obS]
          cases hn:nT q with
          | none =>
            rw [hn] at h2
            obtain ⟨x,h2⟩:=h2
            refine ⟨acc++[x],?_⟩
            rw [step x (-1) (by rw [hz1];exact h2)]
            exact lJ rfl
          | some p =>
            obtain ⟨x,q2⟩:=p
            rw [hn] at h2
            obtain ⟨m2,a2,h2⟩:=h2
            have su:nj q2 ws:=by
              have s1:=tx hn
              split at hy
              · cases hy;exact s1
              · exact nj.trans s1.le (o4 hy)
            have h3:=(ih (acc++[x]) q2 (by have:=su.1;omega) (su.le.vW hv) (by have:=su.1;simp;omega)).1 r0 m2 hll hvl a2
            rw [step x (m2:Int) (by rw [hz1];exact h2)]
            exact h3
    · by_cases ht:isT ws (mkS [41])=true
      · rw [if_pos ht]
        refine lJ ?_
        dsimp only
        rw [if_pos (show (!false)=true from rfl),pn,htk,ht];rfl
      · have ht : isT ws (mkS [41]) = false := by simpa using ht
        rw [if_neg (by simp [ht])]
        have hw:ImW (if acc=[] then some ws else wT (mkS [44]) ws) ((if decide (0<(acc.length:Int)) then (kP ⟨ws,false⟩ 3 (mkS [44])).bind λr=>some (r.list,r.bad) else some (ws,false)).bind λa=>some ⟨a.1,a.2⟩):=by
          rw [e2]
          by_cases h0:acc=[]
          · rw [if_pos h0,decide_eq_true h0]
            rfl
          · rw [if_neg h0,decide_eq_false h0]
            have h1:=y3 hv (t:=mkS [44]) rfl (by decide)
            simp only [Bool.not_false,if_true]
            cases hq:wT (mkS [44]) ws with
            | none =>
              rw [hq] at h1
              obtain ⟨ws',h1⟩:=h1
              exact ⟨ws',by rw [h1];rfl⟩
            | some q =>
              rw [hq] at h1
              show _=_
              rw [show kP ⟨ws,false⟩ 3 (mkS [44])=some ⟨q,false⟩ from h1];rfl
        obtain ⟨z,hz⟩:∃ z:List kJ × Bool,(if decide (0<(acc.length:Int))=true then (kP ⟨ws,false⟩ 3 (mkS [44])).bind λr=>some (r.list,r.bad) else some (ws,false))=some z:=by
          cases hx:(if decide (0<(acc.length:Int))=true then (kP ⟨ws,false⟩ 3 (mkS [44])).bind λr=>some (r.list,r.bad) else some (ws,false)) with
          | some z=>exact ⟨z,rfl⟩
          | none =>
            rw [hx] at hw
            cases hy:(if acc=[] then some ws else wT (mkS [44]) ws) with
            | none=>rw [hy] at hw;obtain ⟨_,h⟩:=hw;cases h
            | some q=>rw [hy] at hw;cases hw
        rw [hz,obS] at hw
        have step:∀ (x:Str) (ws':List kJ) (b:Bool),kv ⟨z.1,z.2⟩=some (x,⟨ws',b⟩)→lH (λ(uA:(List kJ) × Bool × (List Str))=>((if !(uA.2.1) then (kV (⟨uA.1,uA.2.1⟩:kM) 3 (mkS [41])).bind λuD=>some (uD.2.list,uD.2.bad,!(uD.1)) else some (uA.1,uA.2.1,false):Option ((List kJ) × Bool × Bool)).bind λuB=>if uB.2.2 then (if decide (0<((uA.2.2.length:Int))) then (kP (⟨uB.1,uB.2.1⟩:kM) 3 (mkS [44])).bind λuE=>some (uE.list,uE.bad) else some (uB.1,uB.2.1):Option ((List kJ) × Bool)).bind λuF=>(kv (⟨uF.1,uF.2⟩:kM)).bind λuC=>(lD uA.2.2 ([uC.1]:List Str)).bind λuG=>some (.inl (uC.2.list,uC.2.bad,uG)) else some (.inr (uB.1,uB.2.1,uA.2.2)):Option (((List kJ) × Bool × (List Str)) ⊕ ((List kJ) × Bool × (List Str))))) (ws,false,acc)=lH (λ(uA:(List kJ) × Bool × (List Str))=>((if !(uA.2.1) then (kV (⟨uA.1,uA.2.1⟩:kM) 3 (mkS [41])).bind λuD=>some (uD.2.list,uD.2.bad,!(uD.1)) else some (uA.1,uA.2.1,false):Option ((List kJ) × Bool × Bool)).bind λuB=>if uB.2.2 then (if decide (0<((uA.2.2.length:Int))) then (kP (⟨uB.1,uB.2.1⟩:kM) 3 (mkS [44])).bind λuE=>some (uE.list,uE.bad) else some (uB.1,uB.2.1):Option ((List kJ) × Bool)).bind λuF=>(kv (⟨uF.1,uF.2⟩:kM)).bind λuC=>(lD uA.2.2 ([uC.1]:List Str)).bind λuG=>some (.inl (uC.2.list,uC.2.bad,uG)) else some (.inr (uB.1,uB.2.1,uA.2.2)):Option (((List kJ) × Bool × (List Str)) ⊕ ((List kJ) × Bool × (List Str))))) (ws',b,acc++[x]):=by
          intro x ws' b hn
          refine mQ ?_
          dsimp only
          rw [if_pos (show (!false)=true from rfl),pn,htk,ht]
          simp only [obS,Bool.not_false,if_true,Bool.false_eq_true,if_false]
          rw [hz,obS,hn,obS,nC (hlt x)];rfl
        cases hy:(if acc=[] then some ws else wT (mkS [44]) ws) with
        | none =>
          rw [hy] at hw
          obtain ⟨ws1,hw⟩:=hw
          obtain ⟨x,ws2,hn⟩:=bf5 z.1
          have hz2:z.2=true:=by
            have:=Option.some.inj hw
            exact congrArg kM.bad this
          rw [Option.bind_none]
          refine ⟨acc++[x],ws2,?_⟩
          rw [step x ws2 true (by rw [hz2];exact hn)]
          exact lJ rfl
        | some q =>
          rw [hy] at hw
          have hz1:z.1=q:=congrArg kM.list (Option.some.inj hw)
          have hz2:z.2=false:=congrArg kM.bad (Option.some.inj hw)
          have h2:=be3 (ws:=q)
          rw [obS]
          cases hn:nT q with
          | none =>
            rw [hn] at h2
            obtain ⟨x,ws2,h2⟩:=h2
            refine ⟨acc++[x],ws2,?_⟩
            rw [step x ws2 true (by rw [hz1,hz2];exact h2)]
            exact lJ rfl
          | some p =>
            obtain ⟨x,q2⟩:=p
            rw [hn] at h2
            have su:nj q2 ws:=by
              have s1:=tx hn
              split at hy
              · cases hy;exact s1
              · exact nj.trans s1.le (o4 hy)
            have h3:=(ih (acc++[x]) q2 (by have:=su.1;omega) (su.le.vW hv) (by have:=su.1;simp;omega)).2
            rw [step x q2 false (by rw [hz1,hz2];exact h2)]
            exact h3
theorem bg1 {k:Nat} {ws:List kJ} (hk:2*ws.length+2≤k) (hv:vW ws) (hl:ws.length≤1000) {list:List kJ} {n:Nat} (hll:list.length≤1000) (hvl:vW list) (ha:AtW list n ws):SpO list (pF k ws) (mw ⟨list,(n:Int)⟩):=by
 unfold mw pF
 have bad2:∀ (nm:Str) (ps:List Str),((kU ⟨list,-1⟩ (mkS [41])).bind λuC=>(lS ⟨list,uC.at_⟩).bind λuB=>some ((⟨nm,ps,uB.1⟩:Fn_),(⟨list,uB.2.at_⟩:k8)))=some (⟨nm,ps,[]⟩,⟨list,-1⟩):=by
  intro nm ps
  rw [qY,obS,wj];rfl
 have bad1:∀ (nm:Str),(((lH (λ(uA:Int × (List Str))=>((if decide (0≤uA.1) then (lN (⟨(⟨list,n⟩:k8).list,uA.1⟩:k8) (mkS [41])).bind λuF=>some (!(uF)) else some false:Option (Bool)).bind λuG=>if uG then (if decide (0<((uA.2.length:Int))) then (kU (⟨(⟨list,n⟩:k8).list,uA.1⟩:k8) (mkS [44])).bind λuH=>some uH.at_ else some uA.1:Option (Int)).bind λuI=>(l9 (⟨(⟨list,n⟩:k8).list,uI⟩:k8)).bind λuD=>(lD uA.2 ([uD.1]:List Str)).bind λuJ=>some (.inl (uD.2.at_,uJ)) else some (.inr (uA.1,uA.2)):Option ((Int × (List Str)) ⊕ (Int × (List Str))))) (-1,[])).bind λe0=>some e0).bind λuE=>(kU ⟨list,uE.1⟩ (mkS [41])).bind λuC=>(lS ⟨list,uC.at_⟩).bind λuB=>some ((⟨nm,uE.2,uB.1⟩:Fn_),(⟨list,uB.2.at_⟩:k8)))=some (⟨nm,[],[]⟩,⟨list,-1⟩):=by
  intro nm
  exact ko (ko (lJ rfl) rfl) (bad2 nm [])
 have h1:=ug hll ha (mkS [102,110])
 show SpO list ((wT (mkS [102,110]) ws).bind _) _
 cases hq1:wT (mkS [102,110]) ws with
 | none =>
  rw [hq1] at h1
  rw [show kU ⟨list,(n:Int)⟩ (mkS [102,110])=some ⟨list,-1⟩ from h1,obS]
  dsimp only
  rw [bi9,obS]
  dsimp only
  rw [qY]
  exact ⟨_,bad1 _⟩
 | some a =>
 rw [hq1] at h1
 obtain ⟨m1,a1,h1⟩:=h1
 have su1:=o4 hq1
 rw [h1,obS,obS]
 dsimp only
 have h2:=av2 hll a1
 cases hq2:nT a with
 | none =>
  rw [hq2] at h2
  obtain ⟨x,h2⟩:=h2
  rw [h2,obS]
  dsimp only
  rw [qY]
  exact ⟨_,bad1 _⟩
 | some b =>
 obtain ⟨nm,b⟩:=b
 rw [hq2] at h2
 obtain ⟨m2,a2,h2⟩:=h2
 have su2:=tx hq2
 rw [h2,obS,obS]
 dsimp only at a2 ⊢
 have h3:=ug hll a2 (mkS [40])
 cases hq3:wT (mkS [40]) b with
 | none =>
  rw [hq3] at h3
  rw [show kU ⟨list,(m2:Int)⟩ (mkS [40])=some ⟨list,-1⟩ from h3]
  exact ⟨_,bad1 _⟩
 | some c =>
 rw [hq3] at h3
 obtain ⟨m3,a3,h3⟩:=h3
 have su3:=o4 hq3
 have sc:nj c ws:=nj.trans (su3.le.trans su2.le) su1
 rw [h3,obS,obS]
 dsimp only
 have h4:=(cb8 k [] c (by have:=sc.1;omega) (sc.le.vW hv) (by have:=sc.1;simp;omega)).1 ⟨list,(n:Int)⟩ m3 hll hvl a3
 cases hq4:pP k [] c with
 | none =>
  rw [hq4] at h4
  obtain ⟨acc',h4⟩:=h4
  exact ⟨_,ko (ko h4 rfl) (bad2 nm acc')⟩
 | some d =>
 obtain ⟨ps,d⟩:=d
 rw [hq4] at h4
 obtain ⟨m4,w,a4,hw,h4⟩:=h4
 have su4:=ae6 _ _ _ _ _ hq4
 have h5:=ug hll a4 (mkS [41])
 have hw2:wT (mkS [41]) (w::d)=some d:=by simp [wT,isT,hw]
 rw [hw2] at h5
 obtain ⟨m5,a5,h5⟩:=h5
 have sd:nj d ws:=nj.trans su4.le sc
 have h6:=((sim k).1 d (by have:=sd.1;omega) (sd.le.vW hv) (by have:=sd.1;omega)).1 list m5 hll hvl a5
 rw [obS]
 dsimp only
 cases hq6:pK k d with
 | none =>
  rw [hq6] at h6
  obtain ⟨x,h6⟩:=h6
  refine ⟨⟨nm,ps,x⟩,ko (ko h4 rfl) ?_⟩
  dsimp only
  rw [h5,obS,h6];rfl
 | some q =>
  rw [hq6] at h6
  obtain ⟨m6,a6,h6⟩:=h6
  refine ⟨m6,a6,ko (ko h4 rfl) ?_⟩
  dsimp only
  rw [h5,obS,h6];rfl
theorem bb0 {k:Nat} {ws:List kJ} (hk:2*ws.length+2≤k) (hv:vW ws) (hl:ws.length≤1000):ImO (pF k ws) (mB ⟨ws,false⟩):=by
 unfold mB pF
 have bad2:∀ (nm:Str) (ps:List Str) (ws1:List kJ),∃ ws2,((kx ⟨ws1,true⟩).bind λuC=>some ((⟨nm,ps,uC.1⟩:Fn_),uC.2))=some (⟨nm,ps,[]⟩,⟨ws2,true⟩):=by
  intro nm ps ws1
  obtain ⟨ws2,h⟩:=sw ws1
  exact ⟨ws2,by rw [h];rfl⟩
 have bad1:∀ (nm:Str) (ws1:List kJ),∃ x ws2,((kP ⟨ws1,true⟩ 3 (mkS [40])).bind λuG=>((lH (λ(uA:(List kJ) × Bool × (List Str))=>((if !(uA.2.1) then (kV (⟨uA.1,uA.2.1⟩:kM) 3 (mkS [41])).bind λuD=>some (uD.2.list,uD.2.bad,!(uD.1)) else some (uA.1,uA.2.1,false):Option ((List kJ) × Bool × Bool)).bind λuB=>if uB.2.2 then (if decide (0<((uA.2.2.length:Int))) then (kP (⟨uB.1,uB.2.1⟩:kM) 3 (mkS [44])).bind λuH=>some (uH.list,uH.bad) else some (uB.1,uB.2.1):Option ((List kJ) × Bool)).bind λuI=>(kv (⟨uI.1,uI.2⟩:kM)).bind λuE=>(lD uA.2.2 ([uE.1]:List Str)).bind λuJ=>some (.inl (uE.2.list,uE.2.bad,uJ)) else some (.inr (uB.1,uB.2.1,uA.2.2)):Option (((List kJ) × Bool × (List Str)) ⊕ ((List kJ) × Bool × (List Str))))) (uG.list,uG.bad,[])).bind λe0=>some e0).bind λuF=>(kx ⟨uF.1,uF.2.1⟩).bind λuC=>some ((⟨nm,uF.2.2,uC.1⟩:Fn_),uC.2))=some (x,⟨ws2,true⟩):=by
  intro nm ws1
  obtain ⟨ws3,h3⟩:=sf ws1 3 (mkS [40])
  obtain ⟨ws4,h4⟩:=bad2 nm [] ws3
  exact ⟨_,ws4,by rw [h3,obS];exact ko (ko (lJ rfl) rfl) h4⟩
 have h1:=be0 (bd1 hv (t:=mkS [102,110]) (by decide))
 show ImO ((wT (mkS [102,110]) ws).bind _) _
 cases hq1:wT (mkS [102,110]) ws with
 | none =>
  rw [hq1] at h1
  obtain ⟨ws1,h1⟩:=h1
  obtain ⟨x,ws2,h2⟩:=bf5 ws1
  obtain ⟨y,ws3,h3⟩:=bad1 x ws2
  rw [h1,obS,h2,obS]
  exact ⟨_,_,h3⟩
 | some a =>
 rw [hq1] at h1
 have su1:=o4 hq1
 rw [show kP ⟨ws,false⟩ 4 (mkS [102,110])=some ⟨a,false⟩ from h1,obS,obS]
 have h2:=be3 (ws:=a)
 cases hq2:nT a with
 | none =>
  rw [hq2] at h2
  obtain ⟨x,ws2,h2⟩:=h2
  obtain ⟨y,ws3,h3⟩:=bad1 x ws2
  rw [h2,obS]
  exact ⟨_,_,h3⟩
 | some b =>
 obtain ⟨nm,b⟩:=b
 rw [hq2] at h2
 have su2:=tx hq2
 have hvb:=(su2.le.trans su1.le).vW hv
 rw [show kv ⟨a,false⟩=some (nm,⟨b,false⟩) from h2,obS,obS]
 dsimp only
 have h3:=y3 hvb (t:=mkS [40]) rfl (by decide)
 cases hq3:wT (mkS [40]) b with
 | none =>
  rw [hq3] at h3
  obtain ⟨ws3,h3⟩:=h3
  obtain ⟨ws4,h4⟩:=bad2 nm [] ws3
  rw [h3,obS]
  exact ⟨_,ws4,ko (ko (lJ rfl) rfl) h4⟩
 | some c =>
 rw [hq3] at h3
 have su3:=o4 hq3
 have sc:nj c ws:=nj.trans (su3.le.trans su2.le) su1
 rw [show kP ⟨b,false⟩ 3 (mkS [40])=some ⟨c,false⟩ from h3,obS,obS]
 dsimp only
 have h4:=(cb8 k [] c (by have:=sc.1;omega) (sc.le.vW hv) (by have:=sc.1;simp;omega)).2
 cases hq4:pP k [] c with
 | none =>
  rw [hq4] at h4
  obtain ⟨acc',ws4,h4⟩:=h4
  obtain ⟨ws5,h5⟩:=bad2 nm acc' ws4
  exact ⟨_,ws5,ko (ko h4 rfl) h5⟩
 | some d =>
 obtain ⟨ps,d⟩:=d
 rw [hq4] at h4
 have su4:=ae6 _ _ _ _ _ hq4
 have sd:nj d ws:=nj.trans su4.le sc
 have h6:=((sim k).1 d (by have:=sd.1;omega) (sd.le.vW hv) (by have:=sd.1;omega)).2
 unfold OkI at h6
 rw [obS]
 dsimp only
 cases hq6:pK k d with
 | none =>
  rw [hq6] at h6
  obtain ⟨x,ws6,h6⟩:=h6
  refine ⟨⟨nm,ps,x⟩,ws6,ko (ko h4 rfl) ?_⟩
  dsimp only
  rw [h6];rfl
 | some q =>
  rw [hq6] at h6
  refine ko (ko h4 rfl) ?_
  dsimp only
  rw [show kx ⟨d,false⟩=some (q.1,⟨q.2,false⟩) from h6];rfl
theorem cd8 {k0:Nat}:∀ (k:Nat) (acc:List Fn_) (ws:List kJ),ws.length+1≤k→2*ws.length+2≤k0→vW ws→acc.length+ws.length≤1000 →
      (∀ (list:List kJ) (n:Nat),list.length≤1000→vW list→AtW list n ws→match pG k0 k acc ws with
        | some p=>lH (λ(uA:Int × (List Fn_))=>((if decide (0≤uA.1) then some (decide (uA.1<(((list,true).1.length:Int)))) else some false:Option (Bool)).bind λuC=>if uC then (mw (⟨(list,true).1,uA.1⟩:k8)).bind λuB=>(lD uA.2 ([uB.1]:List Fn_)).bind λuD=>some (.inl (uB.2.at_,uD)) else some (.inr (uA.1,uA.2)):Option ((Int × (List Fn_)) ⊕ (Int × (List Fn_))))) ((n:Int),acc)=some ((list.length:Int),p)
        | none=>∃ acc',lH (λ(uA:Int × (List Fn_))=>((if decide (0≤uA.1) then some (decide (uA.1<(((list,true).1.length:Int)))) else some false:Option (Bool)).bind λuC=>if uC then (mw (⟨(list,true).1,uA.1⟩:k8)).bind λuB=>(lD uA.2 ([uB.1]:List Fn_)).bind λuD=>some (.inl (uB.2.at_,uD)) else some (.inr (uA.1,uA.2)):Option ((Int × (List Fn_)) ⊕ (Int × (List Fn_))))) ((n:Int),acc)=some (-1,acc')) ∧
      (match pG k0 k acc ws with
        | some p=>lH (λ(uA:(List kJ) × Bool × (List Fn_))=>((if !(uA.2.1) then some (decide (0<((uA.1.length:Int)))) else some false:Option (Bool)).bind λuC=>if uC then (mB (⟨uA.1,uA.2.1⟩:kM)).bind λuB=>(lD uA.2.2 ([uB.1]:List Fn_)).bind λuD=>some (.inl (uB.2.list,uB.2.bad,uD)) else some (.inr (uA.1,uA.2.1,uA.2.2)):Option (((List kJ) × Bool × (List Fn_)) ⊕ ((List kJ) × Bool × (List Fn_))))) (ws,false,acc)=some ([],false,p)
        | none=>∃ acc' ws',lH (λ(uA:(List kJ) × Bool × (List Fn_))=>((if !(uA.2.1) then some (decide (0<((uA.1.length:Int)))) else some false:Option (Bool)).bind λuC=>if uC then (mB (⟨uA.1,uA.2.1⟩:kM)).bind λuB=>(lD uA.2.2 ([uB.1]:List Fn_)).bind λuD=>some (.inl (uB.2.list,uB.2.bad,uD)) else some (.inr (uA.1,uA.2.1,uA.2.2)):Option (((List kJ) × Bool × (List Fn_)) ⊕ ((List kJ) × Bool × (List Fn_))))) (ws,false,acc)=some (ws',true,acc')):=by
  intro k
  induction k with
  | zero=>intro acc ws h;omega
  | succ k ih =>
    intro acc ws hk hk0 hv hl
    have hlt:∀ x:Fn_,acc.length+[x].length≤2147483648:=λx=>by simp;omega
    rw [pG]
    by_cases h0:ws=[]
    · subst h0
      rw [if_pos rfl]
      refine ⟨λlist n hll hvl ha=>?_,lJ rfl⟩
      have:=ag7 ha
      refine lJ ?_
      have e0:decide (0≤(n:Int))=true:=by simp
      have e1:decide ((n:Int)<(list.length:Int))=false:=by simp;omega
      dsimp only
      rw [if_pos e0,obS,e1,this];rfl
    · rw [if_neg h0]
      have hpos:=List.length_pos_iff.2 h0
      refine ⟨λlist n hll hvl ha=>?_,?_⟩
      · have hlt2:n<list.length:=by
          cases ws with
          | nil=>exact absurd rfl h0
          | cons w r=>exact (mu ha).1
        have e0:decide (0≤(n:Int))=true:=by simp
        have e1:decide ((n:Int)<(list.length:Int))=true:=by simp;omega
        have h1:=bg1 hk0 hv (by omega) hll hvl ha
        have step:∀ (x:Fn_) (y:Int),mw ⟨list,(n:Int)⟩=some (x,⟨list,y⟩)→lH (λ(uA:Int × (List Fn_))=>((if decide (0≤uA.1) then some (decide (uA.1<(((list,true).1.length:Int)))) else some false:Option (Bool)).bind λuC=>if uC then (mw (⟨(list,true).1,uA.1⟩:k8)).bind λuB=>(lD uA.2 ([uB.1]:List Fn_)).bind λuD=>some (.inl (uB.2.at_,uD)) else some (.inr (uA.1,uA.2)):Option ((Int × (List Fn_)) ⊕ (Int × (List Fn_))))) ((n:Int),acc)=lH (λ(uA:Int × (List Fn_))=>((if decide (0≤uA.1) then some (decide (uA.1<(((list,true).1.length:Int)))) else some false:Option (Bool)).bind λuC=>if uC then (mw (⟨(list,true).1,uA.1⟩:k8)).bind λuB=>(lD uA.2 ([uB.1]:List Fn_)).bind λuD=>some (.inl (uB.2.at_,uD)) else some (.inr (uA.1,uA.2)):Option ((Int × (List Fn_)) ⊕ (Int × (List Fn_))))) (y,acc++[x]):=by
          intro x y hn
          refine mQ ?_
          dsimp only
          rw [if_pos e0,obS,e1,if_pos rfl,hn,obS,nC (hlt x)];rfl
        cases hq:pF k0 ws with
        | none =>
          rw [hq] at h1
          obtain ⟨x,h1⟩:=h1
          refine ⟨acc++[x],?_⟩
          rw [step x (-1) h1]
          exact lJ rfl
        | some p =>
          obtain ⟨f,q⟩:=p
          rw [hq] at h1
          obtain ⟨m,a1,h1⟩:=h1
          have su:=bg5 hq
          have h2:=(ih (acc++[f]) q (by have:=su.1;omega) (by have:=su.1;omega) (su.le.vW hv) (by have:=su.1;simp;omega)).1 list m hll hvl a1
          rw [step f (m:Int) h1,obS]
          exact h2
      · have e1 : decide (0 < (ws.length : Int)) = true := by simp; omega
        have h1:=bb0 hk0 hv (by omega)
        have step:∀ (x:Fn_) (ws':List kJ) (b:Bool),mB ⟨ws,false⟩=some (x,⟨ws',b⟩)→lH (λ(uA:(List kJ) × Bool × (List Fn_))=>((if !(uA.2.1) then some (decide (0<((uA.1.length:Int)))) else some false:Option (Bool)).bind λuC=>if uC then (mB (⟨uA.1,uA.2.1⟩:kM)).bind λuB=>(lD uA.2.2 ([uB.1]:List Fn_)).bind λuD=>some (.inl (uB.2.list,uB.2.bad,uD)) else some (.inr (uA.1,uA.2.1,uA.2.2)):Option (((List kJ) × Bool × (List Fn_)) ⊕ ((List kJ) × Bool × (List Fn_))))) (ws,false,acc)=lH (λ(uA:(List kJ) × Bool × (List Fn_))=>((if !(uA.2.1) then some (decide (0<((uA.1.length:Int)))) else some false:Option (Bool)).bind λuC=>if uC then (mB (⟨uA.1,uA.2.1⟩:kM)).bind λuB=>(lD uA.2.2 ([uB.1]:List Fn_)).bind λuD=>some (.inl (uB.2.list,uB.2.bad,uD)) else some (.inr (uA.1,uA.2.1,uA.2.2)):Option (((List kJ) × Bool × (List Fn_)) ⊕ ((List kJ) × Bool × (List Fn_))))) (ws',b,acc++[x]):=by
          intro x ws' b hn
          refine mQ ?_
          dsimp only
          rw [if_pos (show (!false)=true from rfl),obS,e1,if_pos rfl,hn,obS,nC (hlt x)];rfl
        cases hq:pF k0 ws with
        | none =>
          rw [hq] at h1
          obtain ⟨x,ws',h1⟩:=h1
          refine ⟨acc++[x],ws',?_⟩
          rw [step x ws' true h1]
          exact lJ rfl
        | some p =>
          obtain ⟨f,q⟩:=p
          rw [hq] at h1
          have su:=bg5 hq
          have h2:=(ih (acc++[f]) q (by have:=su.1;omega) (by have:=su.1;omega) (su.le.vW hv) (by have:=su.1;simp;omega)).2
          rw [step f q false h1,obS]
          exact h2
end Prg
end Go.Wk
namespace Go.Wk
open Go
namespace Prg
set_option maxRecDepth 10000
section
variable {α:Type}
end
def szE (e:kK):Nat:=3*lz e
end Prg
end Go.Wk
namespace Go.Wk
open Go
namespace Prg
set_option maxRecDepth 10000
def noP:kp:=⟨[]⟩
noncomputable def rdG (ws:List kJ):Option (List Fn_):=pG 2000 1001 [] ws
theorem aq4 {s:Str} {ws:List kJ} (h:xr s=some ws):(match rdG ws with
  | some fns=>pc s=some (if pE ⟨fns⟩ then (⟨fns⟩,true) else (noP,false))∧me s=some (if pE ⟨fns⟩ then (⟨fns⟩,true) else (noP,false))
  | none=>pc s=some (noP,false)∧me s=some (noP,false)):=by
 obtain ⟨hv,hl⟩:=an3 h
 obtain ⟨h1,h2⟩:=cd8 (k0:=2000) 1001 [] ws (by omega) (by omega) hv (by simp;omega)
 replace h1:=h1 ws 0 (by omega) hv (bq2 ws)
 unfold rdG
 cases hq:pG 2000 1001 [] ws with
 | some fns =>
  rw [hq] at h1 h2
  constructor
  ·unfold pc
   rw [ua,sT h,obS]
   dsimp only
   rw [if_neg (by simp)]
   refine ko (ko h1 rfl) ?_
   have e1:decide ((ws.length:Int)<0)=false:=by simp
   dsimp only
   rw [e1,if_neg (by simp),xR]
   cases pE ⟨fns⟩<;>rfl
  ·unfold me
   rw [vl,sT h,obS]
   refine ko (ko h2 rfl) ?_
   dsimp only
   rw [if_neg (by simp),wc]
   cases pE ⟨fns⟩<;>rfl
 | none =>
  rw [hq] at h1 h2
  obtain ⟨acc1,h1⟩:=h1
  obtain ⟨acc2,ws2,h2⟩:=h2
  constructor
  ·unfold pc
   rw [ua,sT h,obS]
   dsimp only
   rw [if_neg (by simp)]
   exact ko (ko h1 rfl) rfl
  ·unfold me
   rw [vl,sT h,obS]
   exact ko (ko h2 rfl) rfl
end Prg
end Go.Wk
namespace Go.Wk
open Go
namespace Prg
set_option maxRecDepth 10000
theorem xz {e:kK} (h:nJ e=true) {r:List kJ} (hs:uf 1 r) (hv:vW r) (hl:(wE 6 e++r).length≤1000):rE (wE 6 e++r)=some (e,r):=by
 obtain ⟨h1,h2⟩:=tl h
 have hR:=(bu2 6 e h1).1 1 r (by omega) (by omega) hs
 have hlv:=zg h1
 have e1:decide (lvI e.op<1)=false:=decide_eq_false (by omega)
 rw [e1] at hR
 exact bs5 (ql (rz h1) hv) hl hR
theorem xx {w:kJ} (h:w=sC∨w=oB∨w=cM) (r:List kJ):uf 1 (w::r):=by
 have k:w.text=mkS [59]∨w.text=mkS [123]∨w.text=mkS [44]:=by rcases h with rfl | rfl | rfl<;>simp [sC,oB,cM]
 refine ⟨λm _ _=>?_,?_⟩
 ·show opW m w = 0
  unfold opW
  rcases k with h | h | h<;>rw [h]<;>(repeat' split)<;>first | rfl | (rename_i h';revert h';decide)
 ·rcases h with rfl | rfl | rfl<;>rfl
theorem ar8 {s:Str} (h:lu s=true):∀ t∈k7,s≠t:=by
 unfold lu at h
 simp only [Bool.and_eq_true,Bool.not_eq_true'] at h
 have h2:=h.2
 unfold sa at h2
 have h3:=of_decide_eq_false h2
 intro t ht e
 subst e
 exact h3 ht
theorem av6 {s:Str} (h:lu s=true):s≠mkS [41]∧s≠mkS [125]∧s≠mkS [44]:=by
 refine ⟨λe=>?_,λe=>?_,λe=>?_⟩<;>(subst e;revert h;decide)
theorem bq6 {s:Str} (h:lu s=true):opK s=0:=by
 have k:=ar8 h
 unfold opK
 rw [if_neg (k zz (by decide)),if_neg (k zY (by decide)),if_neg (k z7 (by decide)),if_neg (k tIf (by decide)),if_neg (k vZ (by decide)),if_neg (k vd (by decide)),if_neg (k tDo (by decide))]
theorem aj5 {op:Int} {n:Str} (h:1≤op∧op≤8) (h1:(op=1∨op=2)→lu n=true) (h2:¬ (op=1∨op=2)→n=mkS []) (r:List kJ):oW (wHd op n++r)=some (op,n,r)∧isT (wHd op n++r) (mkS [125])=false∧isT (wHd op n++r) qG=false:=by
 have:op=1∨op=2∨op=3∨op=4∨op=5∨op=6∨op=7∨op=8:=by omega
 rcases this with rfl | rfl | rfl | rfl | rfl | rfl | rfl | rfl
 ·exact ⟨rfl,rfl,rfl⟩
 ·have hn:=h1 (.inr rfl)
  refine ⟨?_,decide_eq_false (av6 hn).2.1,decide_eq_false (ar8 hn qG (by decide))⟩
  show (if opK n=0 then (if (1:Int)=1 then (wT (mkS [61]) (eQ::r)).map λq=>(2,n,q) else none) else _)=_
  rw [if_pos (bq6 hn)]
  rfl
 all_goals
  have:=h2 (by omega)
  subst this
  exact ⟨rfl,rfl,rfl⟩
theorem as6 {s:kN} (h:hdB s=true) (r:List kJ):isT (wSt s++r) (mkS [125])=false∧isT (wSt s++r) qG=false:=by
 obtain ⟨i1,_,i3,i4,_⟩:=zb h
 rw [wW,List.append_assoc]
 exact (aj5 i1 i3 i4 _).2
def ak1 (l:List kN):Prop:=∀ k acc r,2*(wSL l).length+1≤k→vW r→(wSL l).length+r.length+1≤1000→pB k acc (wSL l++cB::r)=some (acc++l,r)
theorem aa4 {l:List kN} (h:ak1 l) {k:Nat} {r:List kJ} (hk:2*(wSL l).length+2≤k) (hv:vW r) (hl:(wSL l).length+r.length+2≤1000):pK k (wBr (wSL l)++r)=some (l,r):=by
 obtain ⟨j,rfl⟩:∃ j,k=j+1:=⟨k - 1,by omega⟩
 rw [pK]
 have e:wBr (wSL l)++r=oB::(wSL l++cB::r):=by simp [wBr]
 rw [e]
 show (some _).bind _=_
 rw [obS]
 have:=h j [] r (by omega) hv (by omega)
 rw [List.nil_append] at this
 exact this
theorem ag8 {l:List kJ} (h:vW l) {r:List kJ} (hr:vW r):vW (wBr l++r):=ql (tM h) hr
theorem by4 {s:kN} (h:hdB s=true) (hb:ak1 s.body) (he:ak1 s.else_) (vb:vW (wSL s.body)) (ve:vW (wSL s.else_)) {k:Nat} {r:List kJ} (hk:2*(wSt s).length≤k) (hv:vW r) (hl:(wSt s).length+r.length≤1000) (hr:isT r qG=false):pS k (wSt s++r)=some (s,r):=by
  obtain ⟨i1,i2,i3,i4,i5,i6,i7⟩:=zb h
  have hne:=List.length_pos_iff.2 (aq2 s)
  obtain ⟨j,rfl⟩:∃ j,k=j+1:=⟨k - 1,by omega⟩
  have hhl:=List.length_pos_iff.2 (ba7 s.op s.name)
  rw [wW] at hk hl
  rw [pS,wW,List.append_assoc,(aj5 i1 i3 i4 _).1,obS]
  obtain ⟨op,nm,args,body,els⟩:=s
  dsimp only at *
  rcases i2 with ⟨n4,a,rfl,va⟩ | ⟨h4,a,b,rfl,va,vb'⟩
  · have hA : aW ([a].map (wE 6)) = wE 6 a := by simp [aW]
    rw [hA] at hk hl ⊢
    simp only [List.length_append] at hk hl
    rw [List.append_assoc]
    by_cases c5:op=5
    · subst c5
      rw [if_pos (Or.inl rfl)] at hk hl ⊢
      rw [List.append_assoc]
      cases els with
      | nil =>
        simp only [List.isEmpty_nil,if_true,List.length_append,List.length_nil,pQ] at hk hl ⊢
        rw [List.nil_append,xz va (r:=wBr (wSL body)++r) (xx (.inr (.inl rfl)) _) (ag8 vb hv) (by simp only [List.length_append,pQ];omega),obS]
        dsimp only
        try rw [if_neg n4]
        try rw [if_pos rfl]
        rw [aa4 hb (by omega) hv (by omega),obS]
        dsimp only
        rw [hr]
        rfl
      | cons x xs =>
        simp only [show (x::xs).isEmpty=false from rfl,Bool.false_eq_true,if_false,List.length_append,List.length_cons,pQ] at hk hl ⊢
        have v2:vW (kW qG::(wBr (wSL (x::xs))++r)):=mN (by decide +kernel) (ag8 ve hv)
        rw [List.cons_append,xz va (r:=wBr (wSL body)++kW qG::(wBr (wSL (x::xs))++r)) (xx (.inr (.inl rfl)) _) (ag8 vb v2) (by simp only [List.length_append,List.length_cons,pQ];omega),obS]
        dsimp only
        try rw [if_neg n4]
        try rw [if_pos rfl]
        rw [aa4 hb (by omega) v2 (by simp only [List.length_cons,List.length_append,pQ];omega),obS]
        dsimp only
        rw [show isT (kW qG::(wBr (wSL (x::xs))++r)) qG=true from rfl,if_pos rfl,List.tail_cons,aa4 he (by omega) hv (by omega)]
        rfl
    · have hels : els = [] := by rcases i6 with h | h
                                 · exact h
                                 · exact absurd h c5
      subst hels
      by_cases c6:op=6
      · subst c6
        rw [if_pos (Or.inr rfl)] at hk hl ⊢
        simp only [List.isEmpty_nil,if_true,List.length_append,List.length_nil,pQ,List.append_nil] at hk hl ⊢
        rw [xz va (r:=wBr (wSL body)++r) (xx (.inr (.inl rfl)) _) (ag8 vb hv) (by simp only [List.length_append,pQ];omega),obS]
        dsimp only
        try rw [if_neg n4]
        try rw [if_neg c5]
        try rw [if_pos rfl]
        rw [aa4 hb (by omega) hv (by omega)]
        rfl
      · have hbody:body=[]:=i7.resolve_right (λh=>h.elim c5 c6)
        subst hbody
        rw [if_neg (by omega)] at hk hl ⊢
        simp only [List.length_cons,List.length_nil] at hk hl
        rw [List.cons_append,List.nil_append,xz va (r:=sC::r) (xx (.inl rfl) _) (mN rfl hv) (by simp only [List.length_append,List.length_cons];omega),obS]
        dsimp only
        rw [if_neg n4,if_neg c5,if_neg c6]
        rfl
  · subst h4
    have hels:els=[]:=i6.resolve_right (by decide)
    have hbody:body=[]:=i7.resolve_right (by decide)
    subst hels
    subst hbody
    have hA:aW ([a,b].map (wE 6))=wE 6 a++cM::wE 6 b:=by simp [aW]
    rw [hA] at hk hl ⊢
    rw [if_neg (by omega)] at hk hl ⊢
    simp only [List.length_append,List.length_cons,List.length_nil] at hk hl
    obtain ⟨w1,_,_⟩:=si vb'
    have e:(wE 6 a++cM::wE 6 b++[sC])++r=wE 6 a++cM::(wE 6 b++sC::r):=by simp
    rw [e,xz va (xx (.inr (.inr rfl)) _) (mN rfl (ql w1 (mN rfl hv))) (by simp only [List.length_append,List.length_cons];omega),obS]
    dsimp only
    rw [if_pos rfl]
    show (some (wE 6 b++sC::r)).bind _=_
    rw [obS,xz vb' (xx (.inl rfl) _) (mN rfl hv) (by simp only [List.length_append,List.length_cons];omega),obS]
    rfl
theorem bf3:∀ (d:Nat) (l:List kN),(∀ s∈l,oS d s=true)→ak1 l:=by
 intro d
 have nil:ak1 []:=λk acc r hk _ _=>by
  obtain ⟨j,rfl⟩:∃ j,k=j+1:=⟨k - 1,by omega⟩
  rw [pB,r9,List.nil_append,List.append_nil];rfl
 induction d with
 | zero =>
  intro l h
  cases l with
  | nil=>exact nil
  | cons s l=>have:=h s (by simp);rw [oS] at this;cases this
 | succ d ih =>
  intro l
  induction l with
  | nil=>intro _;exact nil
  | cons s l ihl =>
   intro h k acc r hk hv hl
   obtain ⟨h1,h2,h3⟩:=tT (h s (by simp))
   have hS:=ihl λx hx=>h x (by simp [hx])
   have hvl:=(qF (d+1) l λx hx=>h x (by simp [hx])).1
   have hne:=List.length_pos_iff.2 (aq2 s)
   rw [sB,List.length_append] at hk hl
   obtain ⟨j,rfl⟩:∃ j,k=j+1:=⟨k - 1,by omega⟩
   have hE:isT (wSL l++cB::r) qG=false:=by
    cases l with
    | nil=>rw [r9];rfl
    | cons x l=>rw [sB,List.append_assoc];exact (as6 (tT (h x (by simp))).1 _).2
   rw [pB,sB,List.append_assoc,(as6 h1 _).1,if_neg Bool.false_ne_true,
    by4 h1 (ih _ h2) (ih _ h3) (qF d _ h2).1 (qF d _ h3).1 (by omega) (ql hvl (mN rfl hv)) (by simp only [List.length_append,List.length_cons];omega) hE,obS]
   rw [hS j (acc++[s]) r (by omega) hv (by omega),List.append_assoc];rfl
theorem aq8:∀ (l:List Str) (k:Nat) (acc:List Str) (r:List kJ),(∀ s∈l,lu s=true)→acc≠[]→l.length+1≤k→pP k acc (((l.map λs=>[(⟨1,s⟩:kJ)]).map (cM::·)).flatten++pR::r)=some (acc++l,r)
 | [],k,acc,r,_,_,hk=>by
  obtain ⟨j,rfl⟩:∃ j,k=j+1:=⟨k - 1,by omega⟩
  rw [pP]
  show (if true=true then some (acc,r) else _)=_
  rw [if_pos rfl,List.append_nil]
 | s::l,k,acc,r,h,ha,hk=>by
  simp only [List.length_cons] at hk
  obtain ⟨j,rfl⟩:∃ j,k=j+1:=⟨k - 1,by omega⟩
  have ih:=aq8 l j (acc++[s]) r (λx hx=>h x (by simp [hx])) (by simp) (by omega)
  rw [pP]
  have e:(((s::l).map λs=>[(⟨1,s⟩:kJ)]).map (cM::·)).flatten++pR::r=cM::⟨1,s⟩::(((l.map λs=>[(⟨1,s⟩:kJ)]).map (cM::·)).flatten++pR::r):=by simp
  rw [e,show isT (cM::⟨1,s⟩::(((l.map λs=>[(⟨1,s⟩:kJ)]).map (cM::·)).flatten++pR::r)) (mkS [41])=false from rfl,if_neg Bool.false_ne_true,if_neg ha]
  show ((some _).bind _).bind _=_
  rw [obS]
  show (some _).bind _=_
  rw [obS]
  dsimp only
  rw [ih,List.append_assoc];rfl
theorem bw6 {l:List Str} {k:Nat} {r:List kJ} (h:∀ s∈l,lu s=true) (hk:l.length+1≤k):pP k [] (wPa l++pR::r)=some (l,r):=by
 obtain ⟨j,rfl⟩:∃ j,k=j+1:=⟨k - 1,by omega⟩
 cases l with
 | nil=>rw [pP];rfl
 | cons s l =>
  simp only [List.length_cons] at hk
  have:=aq8 l j [s] r (λx hx=>h x (by simp [hx])) (by simp) (by omega)
  rw [pP]
  have e:wPa (s::l)++pR::r=⟨1,s⟩::(((l.map λs=>[(⟨1,s⟩:kJ)]).map (cM::·)).flatten++pR::r):=by simp [wPa,aW]
  rw [e,show isT (⟨1,s⟩::(((l.map λs=>[(⟨1,s⟩:kJ)]).map (cM::·)).flatten++pR::r)) (mkS [41])=false from decide_eq_false (av6 (h s (by simp))).1,if_neg Bool.false_ne_true,if_pos rfl]
  show (some _).bind _=_
  rw [obS]
  exact this
theorem bw0 {f:Fn_} (h:fnB f=true) {k:Nat} {r:List kJ} (hk:2*(wFn f).length≤k) (hv:vW r) (hl:(wFn f).length+r.length≤1000):pF k (wFn f++r)=some (f,r):=by
 obtain ⟨f1,f2,f3,f4⟩:=wz h
 have e:wFn f++r=kW tFn::⟨1,f.name⟩::pL::(wPa f.params++pR::(wBr (wSL f.body)++r)):=by simp [wFn]
 have hlen:(wFn f).length=6+(wPa f.params).length+(wSL f.body).length:=by simp [wFn,wBr];omega
 unfold pF
 rw [e]
 refine ko (a:=⟨1,f.name⟩::pL::(wPa f.params++pR::(wBr (wSL f.body)++r))) rfl ?_
 refine ko (a:=(f.name,pL::(wPa f.params++pR::(wBr (wSL f.body)++r)))) rfl ?_
 refine ko (a:=wPa f.params++pR::(wBr (wSL f.body)++r)) rfl ?_
 rw [bw6 f3 (by omega),obS]
 dsimp only
 rw [aa4 (bf3 4 _ f4) (by omega) hv (by omega)]
 rfl
theorem bf6 {k0:Nat}:∀ (l:List Fn_) (k:Nat) (acc:List Fn_),(∀ f∈l,fnB f=true)→l.length+1≤k→(wFs l).length≤1000→2*(wFs l).length≤k0→pG k0 k acc (wFs l)=some (acc++l)
 | [],k,acc,_,hk,_,_=>by
  obtain ⟨j,rfl⟩:∃ j,k=j+1:=⟨k - 1,by omega⟩
  rw [pG,wFs,if_pos rfl,List.append_nil]
 | f::l,k,acc,h,hk,hl,h0=>by
  simp only [List.length_cons] at hk
  obtain ⟨j,rfl⟩:∃ j,k=j+1:=⟨k - 1,by omega⟩
  have hvl:=(yQ (l:=l) λx hx=>h x (by simp [hx])).1
  rw [wFs,List.length_append] at hl h0
  have ih:=bf6 (k0:=k0) l j (acc++[f]) (λx hx=>h x (by simp [hx])) (by omega) (by omega) (by omega)
  rw [pG,wFs,if_neg (by simp [wFn]),bw0 (h f (by simp)) (by omega) hvl (by omega),obS]
  dsimp only
  rw [ih,List.append_assoc];rfl
theorem bk9 {l:List Fn_} (h:∀ f∈l,fnB f=true) (hl:(wFs l).length≤1000) (hn:l.length≤900):rdG (wFs l)=some l:=by
 unfold rdG
 rw [bf6 l 1001 [] h (by omega) hl (by omega),List.nil_append]
end Prg
end Go.Wk
namespace Go.Wk
open Go
namespace Prg
set_option maxRecDepth 10000
end Prg
end Go.Wk
namespace Go.Wk
open Go
namespace Prg
set_option maxRecDepth 10000
theorem wG {α X:Type} {xs:List α} {body:Int→Unit→Option (Unit ⊕ X)} (h:∀ x∈xs,∀ i,kn xs i=some x→body i ()=some (.inl ())):forN body ((xs.length:Int) - 0).toNat 0 ()=some (.inl ()):=by
 rcases mr (xs:=xs) (body:=body) (s:=()) (λ_ _=>True) (λ_=>False) trivial (λl x r s hx _=>.inl ⟨(),h x (by rw [hx];simp) _ (by rw [hx,mA]),trivial⟩) with ⟨s,h1,_⟩ | ⟨_,_,h2⟩
 ·exact h1
 ·exact h2.elim
theorem ai9 (l:List kK):kY l l (λy0 y1=>nA y0 y1)=some true:=by
 unfold kY
 rw [if_neg (by simp)]
 refine ko (wG λx hx i hi=>?_) rfl
 exact ko hi (ko hi (ko (ca4 x) rfl))
theorem al5:∀ l:List kN,kd l l (λy0 y1=>np y0 y1)=some true:=by
 intro l
 induction l using xJ with
 | h l ih =>
  unfold kd
  rw [if_neg (by simp)]
  refine ko (wG λs hs i hi=>?_) rfl
  obtain ⟨g1,g2⟩:=ih s hs
  refine ko hi (ko hi (ko (a:=true) ?_ rfl))
  show np s s=some true
  rw [np]
  refine ko (a:=true) ?_ rfl
  rw [if_pos (by simp),if_pos (by simp)]
  refine ko (ai9 _) ?_
  rw [if_pos rfl]
  refine ko g1 ?_
  rw [if_pos rfl]
  exact ko g2 rfl
theorem ap8 (p:kp):oP p p=some true:=by
 unfold oP lZ
 rw [if_neg (by simp)]
 refine ko (ko (wG λf hf i hi=>?_) rfl) rfl
 refine ko hi (ko hi (ko (a:=true) ?_ rfl))
 unfold oV
 refine ko (a:=true) ?_ rfl
 rw [if_pos (by simp)]
 refine ko (a:=true) ?_ ?_
 ·unfold nR
  rw [if_neg (by simp)]
  refine ko (wG λx hx j hj=>?_) rfl
  exact ko hj (ko hj (by rw [if_neg (by simp)]))
 ·rw [if_pos rfl]
  exact ko (al5 _) rfl
end Prg
end Go.Wk
namespace Go.Wk
open Go
namespace Prg
set_option maxRecDepth 10000
theorem xb {p:kp} (hp:pE p=true):1≤p.fns.length∧p.fns.length≤4∧∀ f∈p.fns,fnB f=true:=by
 unfold pE at hp
 simp only [Bool.and_eq_true,List.all_eq_true] at hp
 have:=oJ.1 hp.1
 exact ⟨by omega,by omega,hp.2.1⟩
theorem az6 {ws:List kJ} {s:Str} {p:kp} (hc:xr s=some ws) (hr:rdG ws=some p.fns) (hp:pE p=true):me s=some (p,true):=by
 have:=aq4 hc
 rw [hr] at this
 have h2:=this.2
 rw [show (⟨p.fns⟩:kp)=p from rfl,hp] at h2
 exact h2
end Prg
end Go.Wk
namespace Go.Wk
open Go
namespace Prg
set_option maxRecDepth 10000
theorem ai3 (l:List kJ) (x:kJ):txt (l++[x])=if l=[] then x.text.b else txt l++32::x.text.b:=by
 by_cases h:l=[]
 ·subst h;rw [if_pos rfl,List.nil_append,oQ]
 ·rw [if_neg h,nt h (by simp),oQ]
theorem af7 {ws : List kJ} (h : vW ws) (h6 : ws.length ≤ 600) : ∀ (r l : List kJ) (s : Str), ws = l ++ r → s.b = txt l → lH (fun (uA : Str × Int) => ((if decide (uA.2 < ((ws.length : Int))) then some (decide (((ws.length : Int)) ≤ 600)) else some false : Option (Bool)).bind fun uC => if uC then (kn ws uA.2).bind fun uB => (nN uB).bind fun uD => if !(uD) then some (.inr (.inl ((mkS []), false))) else (if decide (0 < uA.2) then (ll uA.1 (mkS [32])).bind fun uE => some uE else some uA.1 : Option (Str)).bind fun uF => (ll uF uB.text).bind fun uG => some (.inl (uG, w64 (uA.2 + 1))) else some (.inr (.inr uA.1)) : Option ((Str × Int) ⊕ ((Str × Bool) ⊕ Str)))) (s, (l.length : Int)) = some (.inr (toS (txt ws)))
 | [],l,s,hl,hs=>by
  have hll:l=ws:=by rw [hl,List.append_nil]
  subst hll
  refine lJ ?_
  dsimp only
  rw [if_neg (by simp)]
  have hb:=sO l h
  have:s=toS (txt l):=Str.ext' (by rw [vq (by omega)];exact hs)
  rw [this];rfl
 | x::r,l,s,hl,hs=>by
  have hlen:ws.length=l.length+(r.length+1):=by rw [hl];simp
  have hx:oZ x=true:=h x (by rw [hl];simp)
  have hvl:vW l:=λw hw=>h w (by rw [hl];exact List.mem_append_left _ hw)
  have hb:=sO l hvl
  have hg:kn ws (l.length:Int)=some x:=by rw [hl,mA]
  obtain ⟨_,_,_,_,_,_,hxl⟩:=uv hx
  have ew:w64 ((l.length:Int)+1)=((l++[x]).length:Int):=by rw [lV (by omega) (by omega)];simp
  by_cases h0:l=[]
  ·subst h0
   have hs0:s.b=[]:=hs
   obtain ⟨u,u1,u2⟩:=o7 (s:=s) (t:=x.text) (by rw [hs0];simp;omega)
   rw [mQ (s':=(u,(([]++[x]:List kJ).length:Int)))]
   ·refine af7 h h6 r ([] ++ [x]) u (by rw [hl]; simp) ?_
    rw [u2,hs0,ai3,if_pos rfl];rfl
   ·dsimp only
    rw [if_pos (decide_eq_true (by omega)),obS,decide_eq_true (show (ws.length:Int)≤600 by omega),if_pos rfl,hg,obS,tc,hx,obS]
    rw [if_neg (by simp),if_neg (by simp),obS,u1,obS,ew]
  ·have hpos:0<l.length:=List.length_pos_iff.2 h0
   obtain ⟨t,t1,t2⟩:=o7 (s:=s) (t:=mkS [32]) (by rw [hs,show (mkS [32]).b=[32] from rfl];simp;omega)
   obtain ⟨u,u1,u2⟩:=o7 (s:=t) (t:=x.text) (by rw [t2,hs,show (mkS [32]).b=[32] from rfl];simp;omega)
   rw [mQ (s':=(u,((l++[x]:List kJ).length:Int)))]
   ·refine af7 h h6 r (l ++ [x]) u (by rw [hl]; simp) ?_
    rw [u2,t2,hs,ai3,if_neg h0,show (mkS [32]).b=[32] from rfl];simp
   ·dsimp only
    rw [if_pos (decide_eq_true (by omega)),obS,decide_eq_true (show (ws.length:Int)≤600 by omega),if_pos rfl,hg,obS,tc,hx,obS]
    rw [if_neg (by simp),if_pos (decide_eq_true (by omega)),t1,obS,obS,u1,obS,ew]
theorem bi8 (ws:List kJ) (h:vW ws):pd ws=some (sY ws):=by
 unfold pd
 by_cases h6:ws.length≤600
 ·have hb:=sO ws h
  have hl:(toS (txt ws)).b.length=(txt ws).length:=by rw [vq (by omega)]
  refine ko (a:=.inl (toS (txt ws))) (ko (af7 h h6 ws [] (mkS []) rfl rfl) rfl) ?_
  dsimp only [Sum.elim_inl]
  rw [if_neg (by simp;omega),obS,hl]
  by_cases h7:(txt ws).length≤3000
  ·have hv:sY ws=(toS (txt ws),true):=if_pos ⟨h6,h7⟩
   rw [hv,if_neg (by simp;omega)]
  ·have hv:sY ws=(mkS [],false):=if_neg λh'=>h7 h'.2
   rw [hv,if_pos (decide_eq_true (by omega))]
 ·have hv:sY ws=(mkS [],false):=if_neg λh'=>h6 h'.1
  refine ko (a:=.inl (mkS [])) (ko (lJ (x:=.inr (mkS [])) ?_) rfl) ?_
  ·dsimp only
   rw [if_pos (decide_eq_true (by omega)),obS,decide_eq_false (by omega)];rfl
  ·dsimp only [Sum.elim_inl]
   rw [if_pos (decide_eq_true (by omega)),obS,if_pos rfl,hv]
theorem az1 {ws:List kJ} (h:vW ws) {T:Str} (hT:T.b=txt ws):qO T=some (sY ws):=by
 unfold qO
 rw [ua,obS]
 by_cases h6:ws.length≤600∧(txt ws).length≤3000
 ·have : T = toS (txt ws) := Str.ext' (by rw [vq (by omega)]; exact hT)
  rw [this,sT (ae9 h h6.1 h6.2)]
  show (pd ws).bind _=_
  rw [bi8 ws h,obS]
 ·have hc:xr T=none:=by
   unfold xr
   by_cases h3:T.b.length≤3000
   ·rw [if_pos h3,hT,ag4 ws h]
    have:¬ ws.length≤600:=λh5=>h6 ⟨h5,by rw [← hT];exact h3⟩
    simp;omega
   ·rw [if_neg h3]
  rw [ay3 hc]
  have hv:sY ws=(mkS [],false):=if_neg h6
  rw [hv];rfl
def aa5 (p:kp):Str × Bool:=if pE p then sY (wFs p.fns) else (mkS [],false)
theorem cc2 {p:kp} (hp:pE p=true) (hc:pM p.fns≤1000000):pM p.fns≤40:=by
 unfold pE at hp
 simp only [Bool.and_eq_true,decide_eq_true_eq] at hp
 have:=hp.2.2
 rw [lV (by omega) (by omega)] at this
 omega
theorem bj3 {p:kp} (hc:pM p.fns≤1000000):mh p=some (aa5 p)∧oh p=some (aa5 p):=by
 unfold aa5
 cases hp:pE p with
 | false =>
  refine ⟨ah9 hp,?_⟩
  unfold oh
  rw [xR,hp];rfl
 | true =>
  have h4:=cc2 hp hc
  rw [if_pos rfl]
  refine ⟨aj4 hp (by omega),?_⟩
  unfold oh
  obtain ⟨T,t1,t2⟩:=ay4 hp (by omega)
  rw [xR,hp,obS,t1,if_neg (by simp),obS,az1 (yQ (xb hp).2.2).1 t2,obS]
theorem br5 {b:List UInt8} (hb:b.length≤2000) {p:Int} (h0:0≤p) (h1:p≤800000):Dr (pj ⟨b,p⟩ 2) (λ_=>True):=by
 unfold pj
 have hx0:=wA hb bj4 1 p (by omega) h0 (by simp;omega)
 have h16:(4:Int) ^ (1+1)=16:=by decide
 rw [h16] at hx0
 refine DrA.bind hx0 λe q g1 g2 g3=>?_
 dsimp only
 refine pk hb (by omega) (by omega) λv _ _=>?_
 dsimp only
 refine Dr.ite (λ_=>Dr.some trivial) λ_=>?_
 refine ofx hb (by decide) (by omega) (by omega) λnmv hnm=>?_
 dsimp only
 refine pk hb (by omega) (by omega) λm hm0 hm1=>?_
 dsimp only
 have hm4:=hm1 (by decide)
 refine Dr.bind (P:=λs:Int × List kK=>q≤s.1∧s.1≤q+3+48) ?_ λs hs=>?_
 ·refine Dr.bind (P:=λs:Int × List kK=>q≤s.1∧s.1≤q+3+48) ?_ λs hs=>Dr.some hs
  refine Dr.loop (I:=λs:Int × List kK × Int=>q≤s.1∧s.1+16*s.2.2≤q+3+48∧0≤s.2.2∧(s.2.1.length:Int)+s.2.2≤3) (λs=>s.2.2.toNat) ⟨by dsimp only;omega,by dsimp only;omega,hm0,by simp;omega⟩ ?_
  rintro ⟨p1,ks,n⟩ ⟨i1,i2,i3,i4⟩
  dsimp only at i1 i2 i3 i4 ⊢
  by_cases hn:0<n
  ·rw [if_pos (by simpa using hn)]
   have hx:=wA hb bc0 1 p1 (by omega) (by omega) (by simp;omega)
   rw [h16] at hx
   refine DrA.bind hx λx q2 k1 k2 k3=>?_
   refine ap (by simp;omega) ?_
   have hw:w64 (n - 1)=n - 1:=lV (by omega) (by omega)
   rw [hw]
   refine Dr.some (And.intro (λt ht=>?_) λt ht=>by cases ht)
   simp only [Sum.inl.injEq] at ht
   subst ht
   dsimp only
   exact ⟨⟨by omega,by omega,by omega,by simp;omega⟩,by omega⟩
  ·rw [if_neg (by simpa using hn)]
   refine Dr.some (And.intro (λt ht=>by cases ht) λt ht=>?_)
   simp only [Sum.inr.injEq] at ht
   subst ht
   exact ⟨i1,by dsimp only;omega⟩
 obtain ⟨j1,j2⟩:=hs
 refine pk hb (by omega) (by omega) λv2 _ _=>?_
 dsimp only
 exact Dr.ite (λ_=>Dr.some trivial) λ_=>Dr.some trivial
theorem zq (op:Int) (n:Str) (a:List kK):nI [(⟨op,n,a,[],[]⟩:kN)]=1:=by rw [nd,ma,qI];show 1+nI []+nI []+0=1;rw [ma]
theorem aj2:∀ (l:List Fn_) (i:Nat) (f:Fn_),pM (l.set i f)≤pM l+nI f.body
 | [],i,f=>by simp [pM]
 | x::r,0,f=>by simp only [List.set_cons_zero,pM];omega
 | x::r,i+1,f=>by simp only [List.set_cons_succ,pM];have:=aj2 r i f;omega
theorem aa6 {f:Fn_}:∀ {l:List Fn_},f∈l→nI f.body≤pM l
 | [],h=>by cases h
 | x::r,h=>by
  rcases List.mem_cons.1 h with rfl | h
  ·simp only [pM];omega
  ·have:=aa6 h;simp only [pM];omega
theorem ah0:∀ l:List kN,l.length≤nI l
 | []=>by simp
 | x::r=>by rw [nd,qI];have:=ah0 r;simp;omega
def Bd1 {A:Type} (c:A→List kN) (x:A ⊕ (kp × kR)):Prop:=match x with
 | .inl a=>nI (c a)≤300
 | .inr a=>pM a.1.fns≤1000
theorem Bd1.step {A B:Type} {c:A→List kN} {c':B→List kN} {f:A→Option (B ⊕ (kp × kR))} {g:kp × kR→Option (B ⊕ (kp × kR))} {o:Option (A ⊕ (kp × kR))} (h:Dr o (Bd1 c)) (hf:∀ a,nI (c a)≤300→Dr (f a) (Bd1 c')) (hg:∀ a,pM a.1.fns≤1000→Dr (g a) (Bd1 c')):Dr (Option.bind o (Sum.elim f g)) (Bd1 c'):=by
 refine Dr.bind h λx hx=>?_
 cases x with
 | inl a=>exact hf a hx
 | inr a=>exact hg a hx
theorem bk0 {b:List UInt8} (hb:b.length≤2000):Dr (sA ⟨b,0⟩) (λr=>pM r.1.fns≤1000):=by
 unfold sA
 refine DrA.bind (br6 hb) λp q g1 g2 g3=>?_
 obtain ⟨g3,g4⟩:=g3
 obtain ⟨n1,n4,hf⟩:=xb g3
 dsimp only
 refine gtx (by omega) (by omega) λx hx=>?_
 obtain ⟨_,hpl,_,_⟩:=wz (hf x hx)
 have hxc:=aa6 hx
 have hxl:=ah0 x.body
 refine pk hb (by omega) (by omega) λv v0 v1=>?_
 dsimp only
 refine Dr.bind (P:=Bd1 λs:Str × List Str × List kN × Int=>s.2.2.1) ?_ λz hz=>?_
 ·refine Bd1.step (c:=λs:Str × List Str × List kN × Int=>s.2.2.1) ?_ (λa ha=>Dr.some ha) λa ha=>Dr.some ha
  refine Dr.ite (λ_=>ofx hb (by decide) (by omega) (by omega) λn _=>Dr.some (show nI _≤300 by dsimp only;omega)) λ_=>?_
  refine Bd1.step (c:=λs:List Str × List kN × Int=>s.2.1) ?_ (λa ha=>Dr.some ha) λa ha=>Dr.some ha
  refine Dr.ite (λ_=>?_) λ_=>?_
  ·refine ap (by simp; omega) ?_
   refine ofx hb (by decide) (by omega) (by omega) λn _=>?_
   exact ap (by simp;omega) (Dr.some (show nI _≤300 by dsimp only;omega))
  refine Bd1.step (c:=λs:List kN × Int=>s.1) ?_ (λa ha=>Dr.some ha) λa ha=>Dr.some ha
  refine Dr.ite (λ_=>?_) λ_=>?_
  ·refine ap (by simp; omega) ?_
   refine Dr.bind (bm4 hb (by omega) (by omega)) λe _=>?_
   refine ap (by simp;omega) (Dr.some (show nI _≤300 from ?_))
   dsimp only
   rw [List.nil_append,qP,zq];omega
  refine Bd1.step (c:=λs:List kN × Int=>s.1) ?_ (λa ha=>Dr.some ha) λa ha=>Dr.some ha
  refine Dr.ite (λ_=>?_) λ_=>?_
  ·refine ap (by simp; omega) ?_
   refine pk hb (by omega) (by omega) λu _ _=>?_
   dsimp only
   refine ofx hb (by decide) (by omega) (by omega) λn _=>?_
   dsimp only
   refine Dr.bind (br5 hb (by omega) (by omega)) λe _=>?_
   refine ap (by simp;omega) (Dr.some (show nI _≤300 from ?_))
   dsimp only
   rw [List.nil_append,qP,zq];omega
  refine Bd1.step (c:=λs:List kN × Int=>s.1) ?_ (λa ha=>Dr.some ha) λa ha=>Dr.some ha
  refine Dr.ite (λ_=>?_) λ_=>?_
  ·refine pk hb (by omega) (by omega) fun u u0 u1 => ?_
   have u1:=u1 (by decide)
   dsimp only
   refine Dr.bind (P:=λs:Int × List kN × Int=>nI s.2.1≤5) ?_ λs hs=>?_
   ·refine Dr.bind (P:=λs:Int × List kN × Int=>nI s.2.1≤5) ?_ λs hs=>Dr.some hs
    refine Dr.loop (I:=λs:Int × Int × List kN × Int=>(0≤s.1∧s.1+s.2.2.2≤400000)∧0≤s.2.2.2∧(nI s.2.2.1:Int)+s.2.2.2≤5) (λs=>s.2.2.2.toNat) ⟨⟨by dsimp only;omega,by dsimp only;omega⟩,u0,by dsimp only;rw [ma];omega⟩ ?_
    rintro ⟨p1,op,l,n⟩ ⟨⟨i1,i2⟩,i3,i4⟩
    dsimp only at i1 i2 i3 i4 ⊢
    by_cases hn:0<n
    ·rw [if_pos (by simpa using hn)]
     refine Dr.bind (P:=λs:Int × Int=>s.1=p1+1) ?_ λs hs=>?_
     ·exact nm hb (by decide) (by omega) (by omega) λm _=>Dr.some rfl
     have hw:w64 (n - 1)=n - 1:=lV (by omega) (by omega)
     rw [hw]
     refine Dr.some (And.intro (λt ht=>?_) λt ht=>by cases ht)
     simp only [Sum.inl.injEq] at ht
     subst ht
     dsimp only
     refine ⟨⟨⟨by omega,by omega⟩,by omega,?_⟩,by omega⟩
     rw [nd,ma,qI]
     dsimp only
     rw [ma];omega
    ·rw [if_neg (by simpa using hn)]
     refine Dr.some (And.intro (λt ht=>by cases ht) λt ht=>?_)
     simp only [Sum.inr.injEq] at ht
     subst ht
     dsimp only;omega
   refine Dr.bind (P:=λl:List kN=>nI l≤300) ?_ λl hl=>Dr.some hl
   refine ap (by simp;omega) ?_
   refine ap (by simp;omega) (Dr.some ?_)
   rw [List.nil_append,qP,nd,ma,qI]
   dsimp only
   rw [ma];omega
  refine Dr.ite (λ_=>Dr.some (show pM _≤1000 by simp [pM])) λ_=>?_
  refine Bd1.step (c:=λs:List kN × Int=>s.1) ?_ (λa ha=>Dr.some ha) λa ha=>Dr.some ha
  refine Dr.ite (λ_=>?_) λ_=>?_
  ·refine nm hb (by decide) (by omega) (by omega) fun u hu => ?_
   have hu2:0≤u∧u≤41:=by
    simp only [List.mem_cons,List.not_mem_nil,or_false] at hu
    omega
   dsimp only
   refine Dr.bind (P:=λl:List kN=>nI l≤300) ?_ λl hl=>Dr.some hl
   refine Dr.bind (P:=λl:List kN=>nI l≤300) ?_ λl hl=>Dr.some hl
   refine Dr.loop (I:=λs:List kN × Int=>0≤s.2∧(nI s.1:Int)+s.2≤81) (λs=>s.2.toNat) ⟨hu2.1,by dsimp only;omega⟩ ?_
   rintro ⟨l,n⟩ ⟨i1,i2⟩
   dsimp only at i1 i2 ⊢
   have hll:=ah0 l
   by_cases hn:0<n
   ·rw [if_pos (by simpa using hn)]
    refine ap (by simp;omega) ?_
    refine ap (by simp;omega) ?_
    have hw:w64 (n - 1)=n - 1:=lV (by omega) (by omega)
    rw [hw]
    refine Dr.some (And.intro (λt ht=>?_) λt ht=>by cases ht)
    simp only [Sum.inl.injEq] at ht
    subst ht
    dsimp only
    refine ⟨⟨by omega,?_⟩,by omega⟩
    rw [List.nil_append,qP,zq];omega
   ·rw [if_neg (by simpa using hn)]
    refine Dr.some (And.intro (λt ht=>by cases ht) λt ht=>?_)
    simp only [Sum.inr.injEq] at ht
    subst ht
    omega
  refine Dr.ite (λ_=>?_) λ_=>Dr.some (show nI _≤300 by dsimp only;omega)
  refine Dr.bind (P:=λl:List Fn_=>pM l≤1000) ?_ λl hl=>Dr.some hl
  refine gtx (by omega) (by omega) λy hy=>?_
  have:=aa6 hy
  refine ap (by simp;omega) ?_
  refine ap (by simp;omega) (Dr.some ?_)
  rw [List.nil_append,tN]
  simp only [pM];omega
 cases z with
 | inr a=>exact Dr.some hz
 | inl a =>
  dsimp only [Sum.elim_inl]
  refine ap (by simp;omega) ?_
  rw [List.nil_append]
  refine gtx (by omega) (by omega) λy _=>Dr.some ?_
  dsimp only
  have:=aj2 p.fns ((p.fns.length:Int) - 1).toNat ⟨a.1,a.2.1,a.2.2.1⟩
  have hz':nI a.2.2.1≤300:=hz
  dsimp only at this
  omega
theorem bf2 (code:List UInt8):∃ p,oL code=some p∧pM p.fns≤1000:=by
 obtain ⟨b,h1,hb⟩:=bn6 code
 obtain ⟨r,r1,r2⟩:=bk0 hb
 refine ⟨r.1,?_,r2⟩
 unfold oL
 rw [h1,obS,r1,obS]
theorem law_programBack (code:List UInt8):ph code=some true:=by
 unfold ph
 by_cases hb:1048576<(code.length:Int)
 ·rw [if_pos (decide_eq_true hb)]
 rw [if_neg (by simpa using hb)]
 obtain ⟨p,hp,hc⟩:=bf2 code
 obtain ⟨t1,t2⟩:=bj3 (p:=p) (by omega)
 refine ko hp (ko t1 (ko t2 ?_))
 have e0:∀ {A:Type} [DecidableEq A] (x:A),decide (x≠x)=false:=λx=>by simp
 have e1:∀ {A:Type} [DecidableEq A] (x:A),decide (x=x)=true:=λx=>by simp
 rw [e0,if_neg Bool.false_ne_true,e0,if_neg Bool.false_ne_true,obS]
 by_cases h:pE p=true∧(wFs p.fns).length≤600∧(txt (wFs p.fns)).length≤3000
 ·obtain ⟨h1,h2,h3⟩:=h
  have hv:aa5 p=(toS (txt (wFs p.fns)),true):=by unfold aa5 sY;rw [if_pos h1,if_pos ⟨h2,h3⟩]
  obtain ⟨n1,n4,hf⟩:=xb h1
  have hw:=(yQ hf).1
  rw [hv] at t1 ⊢
  dsimp only
  rw [if_neg (by simp)]
  refine ko (az6 (ae9 hw h2 h3) (bk9 hf (by omega) (by omega)) h1) (ko (ax4 hw h2 h3) (ko t1 ?_))
  dsimp only
  refine ko (a:=true) ?_ rfl
  rw [if_pos rfl,if_pos rfl,if_pos rfl,e1,if_pos rfl,if_pos rfl]
  refine ko (ap8 p) ?_
  rw [if_pos rfl,wc,h1];rfl
 ·have hv:aa5 p=(mkS [],false):=by
   unfold aa5 sY
   by_cases h1:pE p=true
   ·rw [if_pos h1,if_neg λh'=>h ⟨h1,h'⟩]
   ·rw [if_neg h1]
  rw [hv]
  dsimp only
  rw [if_pos (by rfl),e1,if_pos rfl,e1,if_pos rfl];rfl
end Prg
end Go.Wk
