/- A part of the proof of FnCutShortCardSaid. -/
import Derived.Test.YtdmoolhjchoifaaGreatDoorCsA
namespace Go.Wk
open Go
namespace Prg
set_option maxRecDepth 10000
noncomputable def pT (k:Nat) (op:Int) (nm:Str) (ws:List Word_):Option (Stmt_ × List Word_):=(rE ws).bind λa =>
  if op=4 then (wT (mkS [44]) a.2).bind λq=>(rE q).bind λb=>(wT (mkS [59]) b.2).map λr=>(⟨4,nm,[a.1,b.1],[],[]⟩,r)
  else if op=5 then (pK k a.2).bind λb=>if isT b.2 tElse then (pK k b.2.tail).map λc=>(⟨5,nm,[a.1],b.1,c.1⟩,c.2) else some (⟨5,nm,[a.1],b.1,[]⟩,b.2)
  else if op=6 then (pK k a.2).map λb=>(⟨6,nm,[a.1],b.1,[]⟩,b.2)
  else (wT (mkS [59]) a.2).map λr=>(⟨op,nm,[a.1],[],[]⟩,r)
theorem pS_eq (k:Nat) (ws:List Word_):pS (k+1) ws=(headS ws).bind λh=>pT k h.1 h.2.1 h.2.2:=by rw [pS];rfl
noncomputable def tlS (list:List Word_) (s0_1:Int) (s0_4:Int × Str):Option (Stmt_ × l3Reader) :=
 Option.bind (pspec_l3Reader__expr (⟨list,s0_4.1⟩:l3Reader)) λr0_1=>Option.bind (if decide (s0_1=5) then Option.bind (pspec_l3Reader__block (⟨list,r0_1.2.at_⟩:l3Reader)) λr1_3=>Option.bind (pspec_l3Reader__is (⟨list,r1_3.2.at_⟩:l3Reader) (mkS [101,108,115,101])) λr1_4=>Option.bind (if r1_4 then Option.bind (pspec_l3Reader__want (⟨list,r1_3.2.at_⟩:l3Reader) (mkS [101,108,115,101])) λr2_1=>Option.bind (pspec_l3Reader__block (⟨list,r2_1.at_⟩:l3Reader)) λr2_2=>some (r2_2.1,r2_2.2.at_) else some ([],r1_3.2.at_):Option ((List Stmt_) × Int)) λs1_1=>some (.inr ((⟨s0_1,s0_4.2,([r0_1.1]:List Expr_),r1_3.1,s1_1.1⟩:Stmt_),(⟨list,s1_1.2⟩:l3Reader))) else if decide (s0_1=6) then Option.bind (pspec_l3Reader__block (⟨list,r0_1.2.at_⟩:l3Reader)) λr1_5=>some (.inr ((⟨s0_1,s0_4.2,([r0_1.1]:List Expr_),r1_5.1,[]⟩:Stmt_),(⟨list,r1_5.2.at_⟩:l3Reader))) else Option.bind (if decide (s0_1=4) then Option.bind (pspec_l3Reader__want (⟨list,r0_1.2.at_⟩:l3Reader) (mkS [44])) λr2_3=>Option.bind (pspec_l3Reader__expr (⟨list,r2_3.at_⟩:l3Reader)) λr2_4=>Option.bind (appM ([r0_1.1]:List Expr_) ([r2_4.1]:List Expr_)) λys2_1=>some (r2_4.2.at_,ys2_1) else some (r0_1.2.at_,([r0_1.1]:List Expr_)):Option (Int × (List Expr_))) λs1_2=>some (.inl (s1_2.1,s1_2.2)):Option ((Int × (List Expr_)) ⊕ (Stmt_ × l3Reader))) (Sum.elim (λs0_5=>Option.bind (pspec_l3Reader__want (⟨list,s0_5.1⟩:l3Reader) (mkS [59])) λr0_2=>some ((⟨s0_1,s0_4.2,s0_5.2,[],[]⟩:Stmt_),(⟨list,r0_2.at_⟩:l3Reader))) (λe0=>some e0))
noncomputable def tlI (s0_1:List Word_ × Bool × Int × Str):Option (Stmt_ × wordReader) :=
 Option.bind (pimpl_wordReader__expr (⟨s0_1.1,s0_1.2.1⟩:wordReader) 1) λr0_2=>Option.bind (appM ([]:List Expr_) ([r0_2.1]:List Expr_)) λys0_1=>Option.bind (if decide (s0_1.2.2.1=4) then Option.bind (pimpl_wordReader__want r0_2.2 3 (mkS [44])) λr1_1=>Option.bind (pimpl_wordReader__expr r1_1 1) λr1_2=>Option.bind (appM ys0_1 ([r1_2.1]:List Expr_)) λys1_1=>some (r1_2.2.list,r1_2.2.bad,ys1_1) else some (r0_2.2.list,r0_2.2.bad,ys0_1):Option ((List Word_) × Bool × (List Expr_))) λs0_2=>Option.bind (Option.bind (if decide (s0_1.2.2.1=5) then some true else some (decide (s0_1.2.2.1=6)):Option (Bool)) λs1_3=>Option.bind (if s1_3 then Option.bind (pimpl_wordReader__block (⟨s0_2.1,s0_2.2.1⟩:wordReader)) λr2_2=>Option.bind (if decide (s0_1.2.2.1=5) then Option.bind (pimpl_wordReader__take r2_2.2 4 (mkS [101,108,115,101])) λr3_3=>some (r3_3.2.list,r3_3.2.bad,r3_3.1) else some (r2_2.2.list,r2_2.2.bad,false):Option ((List Word_) × Bool × Bool)) λs2_2=>Option.bind (if s2_2.2.2 then Option.bind (pimpl_wordReader__block (⟨s2_2.1,s2_2.2.1⟩:wordReader)) λr3_4=>some (r3_4.1,r3_4.2.list,r3_4.2.bad) else some ([],s2_2.1,s2_2.2.1):Option ((List Stmt_) × (List Word_) × Bool)) λs2_3=>some (r2_2.1,s2_3.1,s2_3.2.1,s2_3.2.2) else Option.bind (pimpl_wordReader__want (⟨s0_2.1,s0_2.2.1⟩:wordReader) 3 (mkS [59])) λr2_3=>some ([],[],r2_3.list,r2_3.bad):Option ((List Stmt_) × (List Stmt_) × (List Word_) × Bool)) λs1_4=>some (s1_4.1,s1_4.2.1,s1_4.2.2.1,s1_4.2.2.2):Option ((List Stmt_) × (List Stmt_) × (List Word_) × Bool)) λs0_3=>some ((⟨s0_1.2.2.1,s0_1.2.2.2,s0_2.2.2,s0_3.1,s0_3.2.1⟩:Stmt_),(⟨s0_3.2.2.1,s0_3.2.2.2⟩:wordReader))
theorem app1 {α:Type} (x:α):appM ([]:List α) [x]=some [x]:=appM_ok (by simp)
theorem app2 {α:Type} (x y:α):appM [x] [y]=some [x,y]:=appM_ok (by simp)
theorem tlS_bad (list:List Word_) (op:Int) (nm:Str):∃ x,tlS list op (-1,nm)=some (x,⟨list,-1⟩):=by
 unfold tlS
 rw [sExprB,Option.bind_some]
 dsimp only
 by_cases h5:op=5
 ·rw [if_pos (decide_eq_true h5),sBlockB,Option.bind_some]
  dsimp only
  rw [sIsB]
  exact ⟨_,rfl⟩
 rw [if_neg (show ¬ decide (op=5)=true by simpa using h5)]
 by_cases h6:op=6
 ·rw [if_pos (decide_eq_true h6),sBlockB]
  exact ⟨_,rfl⟩
 rw [if_neg (show ¬ decide (op=6)=true by simpa using h6)]
 by_cases h4:op=4
 ·rw [if_pos (decide_eq_true h4),sWantB,Option.bind_some]
  dsimp only
  rw [sExprB,Option.bind_some]
  dsimp only
  rw [app2]
  simp only [Option.bind_some,Sum.elim_inl]
  rw [sWantB]
  exact ⟨_,rfl⟩
 ·rw [if_neg (show ¬ decide (op = 4) = true by simpa using h4)]
  simp only [Option.bind_some,Sum.elim_inl]
  rw [sWantB]
  exact ⟨_,rfl⟩
def OkS (k:Nat) (ws:List Word_):Prop:=∀ list (n:Nat),list.length≤1000→vW list→AtW list n ws→SpO list (pK k ws) (pspec_l3Reader__block ⟨list,(n:Int)⟩)
theorem tlS_ok {k:Nat} {list:List Word_} (hl:list.length≤1000) (hv:vW list) {op:Int} {nm:Str} {n:Nat} {ws:List Word_} (ha:AtW list n ws) (hk:∀ r,SufS r ws→OkS k r):SpO list (pT k op nm ws) (tlS list op ((n:Int),nm)):=by
 unfold tlS pT
 have h1:=sExpr hl hv ha
 cases hq1:rE ws with
 | none =>
  rw [hq1] at h1
  obtain ⟨e,h1⟩:=h1
  have h2:=tlS_bad list op nm
  obtain ⟨x,h2⟩:=h2
  show ∃ x,_
  unfold tlS at h2
  rw [sExprB,Option.bind_some] at h2
  dsimp only at h1 h2 ⊢
  rw [h1,Option.bind_some]
  dsimp only
  by_cases h5:op=5
  ·rw [if_pos (decide_eq_true h5),sBlockB,Option.bind_some]
   dsimp only
   rw [sIsB]
   exact ⟨_,rfl⟩
  rw [if_neg (show ¬ decide (op=5)=true by simpa using h5)]
  by_cases h6:op=6
  ·rw [if_pos (decide_eq_true h6),sBlockB]
   exact ⟨_,rfl⟩
  rw [if_neg (show ¬ decide (op=6)=true by simpa using h6)]
  by_cases h4:op=4
  ·rw [if_pos (decide_eq_true h4),sWantB,Option.bind_some]
   dsimp only
   rw [sExprB,Option.bind_some]
   dsimp only
   rw [app2]
   simp only [Option.bind_some,Sum.elim_inl]
   rw [sWantB]
   exact ⟨_,rfl⟩
  ·rw [if_neg (show ¬ decide (op = 4) = true by simpa using h4)]
   simp only [Option.bind_some,Sum.elim_inl]
   rw [sWantB]
   exact ⟨_,rfl⟩
 | some a =>
  obtain ⟨e,q⟩:=a
  rw [hq1] at h1
  obtain ⟨m,a1,h1⟩:=h1
  have su:=rE_suf hq1
  dsimp only at h1 a1 ⊢
  rw [h1,Option.bind_some,Option.bind_some]
  dsimp only
  by_cases h4:op=4
  ·rw [if_pos h4, if_neg (show ¬ decide (op = 5) = true by simp [h4]), if_neg (show ¬ decide (op = 6) = true by simp [h4]), if_pos (decide_eq_true h4)]
   have h2:=sWant hl a1 (mkS [44])
   cases hq2:wT (mkS [44]) q with
   | none =>
    rw [hq2] at h2
    rw [show pspec_l3Reader__want ⟨list,(m:Int)⟩ (mkS [44])=some ⟨list,-1⟩ from h2,Option.bind_some]
    dsimp only
    rw [sExprB,Option.bind_some]
    dsimp only
    rw [app2]
    simp only [Option.bind_some,Sum.elim_inl,Option.bind_none]
    rw [sWantB]
    exact ⟨_,rfl⟩
   | some q2 =>
    rw [hq2] at h2
    obtain ⟨m2,a2,h2⟩:=h2
    rw [h2,Option.bind_some,Option.bind_some]
    dsimp only
    have h3:=sExpr hl hv a2
    cases hq3:rE q2 with
    | none =>
     rw [hq3] at h3
     obtain ⟨e2,h3⟩:=h3
     rw [h3,Option.bind_some]
     dsimp only
     rw [app2]
     simp only [Option.bind_some,Sum.elim_inl,Option.bind_none]
     rw [sWantB]
     exact ⟨_,rfl⟩
    | some b =>
     rw [hq3] at h3
     obtain ⟨m3,a3,h3⟩:=h3
     rw [h3,Option.bind_some,Option.bind_some]
     dsimp only
     rw [app2]
     simp only [Option.bind_some,Sum.elim_inl]
     have h5:=sWant hl a3 (mkS [59])
     cases hq4:wT (mkS [59]) b.2 with
     | none =>
      rw [hq4] at h5
      rw [show pspec_l3Reader__want ⟨list,(m3:Int)⟩ (mkS [59])=some ⟨list,-1⟩ from h5]
      exact ⟨_,rfl⟩
     | some q4 =>
      rw [hq4] at h5
      obtain ⟨m4,a4,h5⟩:=h5
      rw [h5]
      exact ⟨m4,a4,by rw [h4];rfl⟩
  rw [if_neg h4]
  by_cases h5:op=5
  ·rw [if_pos h5,if_pos (decide_eq_true h5)]
   have h2:=hk q su list m hl hv a1
   cases hq2:pK k q with
   | none =>
    rw [hq2] at h2
    obtain ⟨b,h2⟩:=h2
    rw [h2,Option.bind_some]
    dsimp only
    rw [sIsB]
    exact ⟨_,rfl⟩
   | some b =>
    rw [hq2] at h2
    obtain ⟨m2,a2,h2⟩:=h2
    have su2:=(pSK_suf k).2.1 _ _ _ hq2
    rw [h2,Option.bind_some,Option.bind_some]
    dsimp only
    rw [sIs a2,Option.bind_some]
    show SpO list (if isT b.2 (mkS [101,108,115,101])=true then _ else _) _
    cases ht:isT b.2 (mkS [101,108,115,101]) with
    | false =>
     simp only [Bool.false_eq_true,if_false,Option.bind_some,Sum.elim_inr]
     exact ⟨m2,a2,by rw [h5]⟩
    | true =>
     simp only [if_true]
     have h3:=sWant hl a2 (mkS [101,108,115,101])
     have hw:wT (mkS [101,108,115,101]) b.2=some b.2.tail:=by unfold wT;rw [ht];rfl
     rw [hw] at h3
     obtain ⟨m3,a3,h3⟩:=h3
     rw [h3,Option.bind_some]
     dsimp only
     have su3:=wT_suf hw
     have h6:=hk b.2.tail (SufS.trans su3.le (SufS.trans su2.le su)) list m3 hl hv a3
     cases hq3:pK k b.2.tail with
     | none =>
      rw [hq3] at h6
      obtain ⟨c,h6⟩:=h6
      rw [h6]
      exact ⟨_,rfl⟩
     | some c =>
      rw [hq3] at h6
      obtain ⟨m4,a4,h6⟩:=h6
      rw [h6]
      exact ⟨m4,a4,by rw [h5];rfl⟩
  rw [if_neg h5,if_neg (show ¬ decide (op=5)=true by simpa using h5)]
  by_cases h6:op=6
  ·rw [if_pos h6,if_pos (decide_eq_true h6)]
   have h2:=hk q su list m hl hv a1
   cases hq2:pK k q with
   | none =>
    rw [hq2] at h2
    obtain ⟨b,h2⟩:=h2
    rw [h2]
    exact ⟨_,rfl⟩
   | some b =>
    rw [hq2] at h2
    obtain ⟨m2,a2,h2⟩:=h2
    rw [h2]
    exact ⟨m2,a2,by rw [h6];rfl⟩
  rw [if_neg h6,if_neg (show ¬ decide (op=6)=true by simpa using h6),if_neg (show ¬ decide (op=4)=true by simpa using h4)]
  simp only [Option.bind_some,Sum.elim_inl]
  have h2:=sWant hl a1 (mkS [59])
  cases hq2:wT (mkS [59]) q with
  | none =>
   rw [hq2] at h2
   rw [show pspec_l3Reader__want ⟨list,(m:Int)⟩ (mkS [59])=some ⟨list,-1⟩ from h2]
   exact ⟨_,rfl⟩
  | some q2 =>
   rw [hq2] at h2
   obtain ⟨m2,a2,h2⟩:=h2
   rw [h2]
   exact ⟨m2,a2,rfl⟩
theorem stmtS_ok {k:Nat} {list:List Word_} (hl:list.length≤1000) (hv:vW list) {n:Nat} {ws:List Word_} (ha:AtW list n ws) (hk:∀ r,SufS r ws→OkS k r):SpO list (pS (k+1) ws) (pspec_l3Reader__stmt ⟨list,(n:Int)⟩):=by
 rw [pspec_l3Reader__stmt,pS_eq]
 have hle:=ha.2
 dsimp only
 cases ws with
 | nil =>
  have:=at_nil ha
  rw [if_pos (by simp;omega)]
  exact ⟨_,rfl⟩
 | cons w r =>
  obtain ⟨h1,h2,h3⟩:=at_cons ha
  rw [if_neg (by simp;omega),h2,Option.bind_some,l3Op_ok,Option.bind_some,Option.bind_some]
  have hsr:SufS r (w::r):=suf_tail w r
  by_cases h0:opK w.text=0
  ·rw [h0]
   simp only [if_true,ne_eq,not_true_eq_false,decide_false,Bool.false_eq_true,if_false,Option.bind_some,show decide ((2:Int)=1)=false from rfl,decide_true]
   have h4:=sName hl ha
   by_cases hw:w.kind=1
   ·have hn : nT (w :: r) = some (w.text, r) := by simp [nT, hw]
    rw [hn] at h4
    obtain ⟨m,a1,h4⟩:=h4
    rw [h4,Option.bind_some]
    dsimp only at a1 ⊢
    have h5:=sWant hl a1 (mkS [61])
    cases hq:wT (mkS [61]) r with
    | none =>
     rw [hq] at h5
     have hh:headS (w::r)=none:=by simp [headS,h0,hw,hq]
     rw [show pspec_l3Reader__want ⟨list,(m:Int)⟩ (mkS [61])=some ⟨list,-1⟩ from h5,hh]
     exact tlS_bad list 2 w.text
    | some q =>
     rw [hq] at h5
     obtain ⟨m2,a2,h5⟩:=h5
     have hh:headS (w::r)=some (2,w.text,q):=by simp [headS,h0,hw,hq]
     rw [h5,hh]
     exact tlS_ok hl hv a2 λx hx=>hk x (SufS.trans hx.le (SufS.trans (wT_suf hq).le hsr))
   ·have hn : nT (w :: r) = none := by simp [nT, hw]
    rw [hn] at h4
    obtain ⟨x,h4⟩:=h4
    have hh:headS (w::r)=none:=by simp [headS,h0,hw]
    rw [h4,Option.bind_some]
    dsimp only
    rw [sWantB,hh]
    exact tlS_bad list 2 x
  ·by_cases hl1:opK w.text=1
   ·rw [hl1]
    simp only [show ((1:Int)=0)=False from by simp,if_false,ne_eq,show ((1:Int)=2)=False from by simp,not_false_eq_true,decide_true,if_true,Option.bind_some]
    rw [w64_1 (by omega)]
    have h4:=sName hl h3
    cases hn:nT r with
    | none =>
     rw [hn] at h4
     obtain ⟨x,h4⟩:=h4
     have hh:headS (w::r)=none:=by simp [headS,hl1,hn]
     rw [h4,Option.bind_some]
     dsimp only
     rw [sWantB,hh]
     exact tlS_bad list 1 x
    | some p =>
     rw [hn] at h4
     obtain ⟨m,a1,h4⟩:=h4
     rw [h4,Option.bind_some]
     dsimp only
     have h5:=sWant hl a1 (mkS [61])
     cases hq:wT (mkS [61]) p.2 with
     | none =>
      rw [hq] at h5
      have hh:headS (w::r)=none:=by simp [headS,hl1,hn,hq]
      rw [show pspec_l3Reader__want ⟨list,(m:Int)⟩ (mkS [61])=some ⟨list,-1⟩ from h5,hh]
      exact tlS_bad list 1 p.1
     | some q =>
      rw [hq] at h5
      obtain ⟨m2,a2,h5⟩:=h5
      have hh:headS (w::r)=some (1,p.1,q):=by simp [headS,hl1,hn,hq]
      rw [h5,hh]
      exact tlS_ok hl hv a2 λx hx=>hk x (SufS.trans hx.le (SufS.trans ((wT_suf hq).le.trans (nT_suf (n:=p.1) (q:=p.2) hn).le) hsr))
   ·have h2':opK w.text≠2:=by
     have:=opK_range w.text
     omega
    have hh:headS (w::r)=some (opK w.text,mkS [],r):=by simp [headS,h0,hl1]
    rw [if_neg h0,if_pos (by simpa using h2'),Option.bind_some,if_neg (by simpa using hl1),Option.bind_some,if_neg (by simpa using h2'),w64_1 (by omega),hh]
    exact tlS_ok hl hv h3 λx hx=>hk x (SufS.trans hx.le hsr)
end Prg
end Go.Wk
namespace Go.Wk
open Go
namespace Prg
set_option maxRecDepth 10000
theorem tlI_bad (ws:List Word_) (op:Int) (nm:Str):∃ x ws',tlI (ws,true,op,nm)=some (x,⟨ws',true⟩):=by
 unfold tlI
 obtain ⟨e,ws1,h1⟩:=expr_bad 1 (by omega) ws
 dsimp only
 rw [h1,Option.bind_some,app1,Option.bind_some]
 dsimp only
 by_cases h4:op=4
 ·obtain ⟨ws2,h2⟩:=iWantB ws1 3 (mkS [44])
  obtain ⟨e2,ws3,h3⟩:=expr_bad 1 (by omega) ws2
  obtain ⟨ws4,h5⟩:=iWantB ws3 3 (mkS [59])
  rw [if_pos (decide_eq_true h4),h2,Option.bind_some,h3,Option.bind_some,app2]
  simp only [Option.bind_some]
  rw [if_neg (show ¬ decide (op=5)=true by simp [h4])]
  simp only [Option.bind_some]
  rw [if_neg (show ¬ decide (op=6)=true by simp [h4]),h5]
  exact ⟨_,_,rfl⟩
 rw [if_neg (show ¬ decide (op=4)=true by simpa using h4)]
 simp only [Option.bind_some]
 by_cases h5:op=5
 ·obtain ⟨ws2,h2⟩:=iBlockB ws1
  rw [if_pos (decide_eq_true h5)]
  simp only [Option.bind_some,if_true]
  rw [h2,Option.bind_some,if_pos (decide_eq_true h5)]
  dsimp only
  rw [take_ok,Option.bind_some,Option.bind_some]
  dsimp only
  cases tkW ws2 4 (mkS [101,108,115,101]) with
  | false=>exact ⟨_,_,rfl⟩
  | true =>
   obtain ⟨ws3,h3⟩:=iBlockB ws2.tail
   simp only [if_true]
   rw [h3]
   exact ⟨_,_,rfl⟩
 rw [if_neg (show ¬ decide (op=5)=true by simpa using h5)]
 simp only [Option.bind_some]
 by_cases h6:op=6
 ·obtain ⟨ws2,h2⟩:=iBlockB ws1
  rw [if_pos (decide_eq_true h6)]
  rw [h2,Option.bind_some,if_neg (show ¬ decide (op=5)=true by simpa using h5)]
  exact ⟨_,_,rfl⟩
 ·obtain ⟨ws2,h2⟩:=iWantB ws1 3 (mkS [59])
  rw [if_neg (show ¬ decide (op=6)=true by simpa using h6),h2]
  exact ⟨_,_,rfl⟩
def OkI (k:Nat) (ws:List Word_):Prop:=ImO (pK k ws) (pimpl_wordReader__block ⟨ws,false⟩)
theorem tlI_ok {k:Nat} {op:Int} {nm:Str} {ws:List Word_} (hv:vW ws) (hl:ws.length≤1000) (hk:∀ r,SufS r ws→OkI k r):ImO (pT k op nm ws) (tlI (ws,false,op,nm)):=by
 unfold tlI pT
 have h1:=iExpr hv hl
 cases hq1:rE ws with
 | none =>
  rw [hq1] at h1
  obtain ⟨e,ws1,h1⟩:=h1
  have hb:=tlI_bad ws1 op nm
  show ∃ x ws',_
  dsimp only
  rw [h1,Option.bind_some,app1,Option.bind_some]
  dsimp only
  by_cases h4:op=4
  ·obtain ⟨ws2,h2⟩:=iWantB ws1 3 (mkS [44])
   obtain ⟨e2,ws3,h3⟩:=expr_bad 1 (by omega) ws2
   obtain ⟨ws4,h5⟩:=iWantB ws3 3 (mkS [59])
   rw [if_pos (decide_eq_true h4),h2,Option.bind_some,h3,Option.bind_some,app2]
   simp only [Option.bind_some]
   rw [if_neg (show ¬ decide (op=5)=true by simp [h4])]
   simp only [Option.bind_some]
   rw [if_neg (show ¬ decide (op=6)=true by simp [h4]),h5]
   exact ⟨_,_,rfl⟩
  rw [if_neg (show ¬ decide (op=4)=true by simpa using h4)]
  simp only [Option.bind_some]
  by_cases h5:op=5
  ·obtain ⟨ws2,h2⟩:=iBlockB ws1
   rw [if_pos (decide_eq_true h5)]
   simp only [Option.bind_some,if_true]
   rw [h2,Option.bind_some,if_pos (decide_eq_true h5)]
   dsimp only
   rw [take_ok,Option.bind_some,Option.bind_some]
   dsimp only
   cases tkW ws2 4 (mkS [101,108,115,101]) with
   | false=>exact ⟨_,_,rfl⟩
   | true =>
    obtain ⟨ws3,h3⟩:=iBlockB ws2.tail
    simp only [if_true]
    rw [h3]
    exact ⟨_,_,rfl⟩
  rw [if_neg (show ¬ decide (op=5)=true by simpa using h5)]
  simp only [Option.bind_some]
  by_cases h6:op=6
  ·obtain ⟨ws2,h2⟩:=iBlockB ws1
   rw [if_pos (decide_eq_true h6)]
   rw [h2,Option.bind_some,if_neg (show ¬ decide (op=5)=true by simpa using h5)]
   exact ⟨_,_,rfl⟩
  ·obtain ⟨ws2,h2⟩:=iWantB ws1 3 (mkS [59])
   rw [if_neg (show ¬ decide (op=6)=true by simpa using h6),h2]
   exact ⟨_,_,rfl⟩
 | some a =>
  obtain ⟨e,q⟩:=a
  rw [hq1] at h1
  have su:=rE_suf hq1
  have hvq:=su.le.vW hv
  replace h1:pimpl_wordReader__expr ⟨ws,false⟩ 1=some (e,⟨q,false⟩):=h1
  dsimp only
  rw [h1,Option.bind_some,Option.bind_some,app1,Option.bind_some]
  dsimp only
  by_cases h4:op=4
  ·rw [if_pos h4,if_pos (decide_eq_true h4)]
   have h2:=iWant hvq (t:=mkS [44]) rfl (by decide)
   cases hq2:wT (mkS [44]) q with
   | none =>
    rw [hq2] at h2
    obtain ⟨ws2,h2⟩:=h2
    obtain ⟨e2,ws3,h3⟩:=expr_bad 1 (by omega) ws2
    obtain ⟨ws4,h5⟩:=iWantB ws3 3 (mkS [59])
    rw [h2,Option.bind_some,h3,Option.bind_some,app2]
    simp only [Option.bind_some,Option.bind_none]
    rw [if_neg (show ¬ decide (op=5)=true by simp [h4])]
    simp only [Option.bind_some]
    rw [if_neg (show ¬ decide (op=6)=true by simp [h4]),h5]
    exact ⟨_,_,rfl⟩
   | some q2 =>
    rw [hq2] at h2
    have su2:=wT_suf hq2
    have hv2:=su2.le.vW hvq
    replace h2:pimpl_wordReader__want ⟨q,false⟩ 3 (mkS [44])=some ⟨q2,false⟩:=h2
    rw [h2,Option.bind_some,Option.bind_some]
    have h3:=iExpr hv2 (by have:=su.1;have:=su2.1;omega)
    cases hq3:rE q2 with
    | none =>
     rw [hq3] at h3
     obtain ⟨e2,ws3,h3⟩:=h3
     obtain ⟨ws4,h5⟩:=iWantB ws3 3 (mkS [59])
     rw [h3,Option.bind_some,app2]
     simp only [Option.bind_some,Option.bind_none]
     rw [if_neg (show ¬ decide (op=5)=true by simp [h4])]
     simp only [Option.bind_some]
     rw [if_neg (show ¬ decide (op=6)=true by simp [h4]),h5]
     exact ⟨_,_,rfl⟩
    | some b =>
     obtain ⟨e2,q3⟩:=b
     rw [hq3] at h3
     have su3:=rE_suf hq3
     have hv3:=su3.le.vW hv2
     replace h3:pimpl_wordReader__expr ⟨q2,false⟩ 1=some (e2,⟨q3,false⟩):=h3
     rw [h3,Option.bind_some,Option.bind_some,app2]
     simp only [Option.bind_some]
     rw [if_neg (show ¬ decide (op=5)=true by simp [h4])]
     simp only [Option.bind_some]
     rw [if_neg (show ¬ decide (op=6)=true by simp [h4])]
     have h5:=iWant hv3 (t:=mkS [59]) rfl (by decide)
     cases hq4:wT (mkS [59]) q3 with
     | none =>
      rw [hq4] at h5
      obtain ⟨ws5,h5⟩:=h5
      rw [h5]
      exact ⟨_,_,rfl⟩
     | some q4 =>
      rw [hq4] at h5
      replace h5:pimpl_wordReader__want ⟨q3,false⟩ 3 (mkS [59])=some ⟨q4,false⟩:=h5
      rw [h5,h4]
      rfl
  rw [if_neg h4,if_neg (show ¬ decide (op=4)=true by simpa using h4)]
  simp only [Option.bind_some]
  by_cases h5:op=5
  ·rw [if_pos h5,if_pos (decide_eq_true h5)]
   simp only [Option.bind_some,if_true]
   have h2:=hk q su
   unfold OkI at h2
   cases hq2:pK k q with
   | none =>
    rw [hq2] at h2
    obtain ⟨b,ws2,h2⟩:=h2
    rw [h2,Option.bind_some,if_pos (decide_eq_true h5)]
    dsimp only
    rw [take_ok,Option.bind_some,Option.bind_some]
    dsimp only
    cases tkW ws2 4 (mkS [101,108,115,101]) with
    | false=>exact ⟨_,_,rfl⟩
    | true =>
     obtain ⟨ws3,h3⟩:=iBlockB ws2.tail
     simp only [if_true]
     rw [h3]
     exact ⟨_,_,rfl⟩
   | some b =>
    obtain ⟨b,q2⟩:=b
    rw [hq2] at h2
    have su2:=(pSK_suf k).2.1 _ _ _ hq2
    have hv2:=su2.le.vW hvq
    replace h2:pimpl_wordReader__block ⟨q,false⟩=some (b,⟨q2,false⟩):=h2
    rw [h2,Option.bind_some,Option.bind_some,if_pos (decide_eq_true h5)]
    dsimp only
    rw [take_ok,Option.bind_some,Option.bind_some]
    dsimp only
    rw [tk_key hv2 (t:=mkS [101,108,115,101]) (by decide)]
    show ImO (if isT q2 (mkS [101,108,115,101])=true then _ else _) _
    cases ht:isT q2 (mkS [101,108,115,101]) with
    | false =>
     simp only [Bool.false_eq_true,if_false,Option.bind_some]
     rw [h5]
     rfl
    | true =>
     have hw:wT (mkS [101,108,115,101]) q2=some q2.tail:=by unfold wT;rw [ht];rfl
     have su3:=wT_suf hw
     have h6:=hk q2.tail (SufS.trans su3.le (SufS.trans su2.le su))
     unfold OkI at h6
     simp only [if_true]
     cases hq3:pK k q2.tail with
     | none =>
      rw [hq3] at h6
      obtain ⟨c,ws3,h6⟩:=h6
      rw [h6]
      exact ⟨_,_,rfl⟩
     | some c =>
      rw [hq3] at h6
      replace h6:pimpl_wordReader__block ⟨q2.tail,false⟩=some (c.1,⟨c.2,false⟩):=h6
      rw [h6,h5]
      rfl
  rw [if_neg h5,if_neg (show ¬ decide (op=5)=true by simpa using h5)]
  simp only [Option.bind_some]
  by_cases h6:op=6
  ·rw [if_pos h6,if_pos (decide_eq_true h6)]
   have h2:=hk q su
   unfold OkI at h2
   cases hq2:pK k q with
   | none =>
    rw [hq2] at h2
    obtain ⟨b,ws2,h2⟩:=h2
    rw [h2,Option.bind_some,if_neg (show ¬ decide (op=5)=true by simpa using h5)]
    exact ⟨_,_,rfl⟩
   | some b =>
    obtain ⟨b,q2⟩:=b
    rw [hq2] at h2
    replace h2:pimpl_wordReader__block ⟨q,false⟩=some (b,⟨q2,false⟩):=h2
    rw [h2,Option.bind_some,if_neg (show ¬ decide (op=5)=true by simpa using h5),h6]
    rfl
  rw [if_neg h6,if_neg (show ¬ decide (op=6)=true by simpa using h6)]
  have h2:=iWant hvq (t:=mkS [59]) rfl (by decide)
  cases hq2:wT (mkS [59]) q with
  | none =>
   rw [hq2] at h2
   obtain ⟨ws2,h2⟩:=h2
   rw [h2]
   exact ⟨_,_,rfl⟩
  | some q2 =>
   rw [hq2] at h2
   replace h2:pimpl_wordReader__want ⟨q,false⟩ 3 (mkS [59])=some ⟨q2,false⟩:=h2
   rw [h2]
   rfl
theorem stmtI_eq (ws : List Word_) (b : Bool) : pimpl_wordReader__stmt ⟨ws, b⟩ = Option.bind (pimpl_wordReader__next ⟨ws, b⟩) fun r => Option.bind (if decide (r.1.kind = 4) then some (decide (0 < opK r.1.text)) else some false : Option Bool) fun s => Option.bind (if s then Option.bind (if decide (opK r.1.text = 1) then Option.bind (pimpl_wordReader__name r.2) fun p => Option.bind (pimpl_wordReader__want p.2 3 (mkS [61])) fun q => some (q.list, q.bad, p.1) else some (r.2.list, r.2.bad, mkS []) : Option (List Word_ × Bool × Str)) fun u => some (.inl (u.1, u.2.1, opK r.1.text, u.2.2))
  else if decide (r.1.kind=1) then Option.bind (pimpl_wordReader__want r.2 3 (mkS [61])) λq=>some (.inl (q.list,q.bad,2,r.1.text)) else some (.inr ((⟨2,r.1.text,[],[],[]⟩:Stmt_),(⟨r.2.list,true⟩:wordReader))):Option ((List Word_ × Bool × Int × Str) ⊕ (Stmt_ × wordReader))) (Sum.elim tlI some):=by
 rw [pimpl_wordReader__stmt]
 simp only [keys_get]
 refine congrArg (Option.bind _) (funext λr=>?_)
 cases (if decide (r.1.kind=4) then some (decide (0<opK r.1.text)) else some false:Option Bool) with
 | none=>rfl
 | some s =>
  simp only [Option.bind_some]
  cases (if s = true then Option.bind (if decide (opK r.1.text = 1) then Option.bind (pimpl_wordReader__name r.2) fun p => Option.bind (pimpl_wordReader__want p.2 3 (mkS [61])) fun q => some (q.list, q.bad, p.1) else some (r.2.list, r.2.bad, mkS []) : Option (List Word_ × Bool × Str)) fun u => some (.inl (u.1, u.2.1, opK r.1.text, u.2.2))
   else if decide (r.1.kind=1) then Option.bind (pimpl_wordReader__want r.2 3 (mkS [61])) λq=>some (.inl (q.list,q.bad,2,r.1.text)) else some (.inr ((⟨2,r.1.text,[],[],[]⟩:Stmt_),(⟨r.2.list,true⟩:wordReader))):Option ((List Word_ × Bool × Int × Str) ⊕ (Stmt_ × wordReader))) with
  | none=>rfl
  | some z=>cases z<;>rfl
theorem stmtI_ok {k:Nat} {ws:List Word_} (hv:vW ws) (hl:ws.length≤1000) (hk:∀ r,SufS r ws→OkI k r):ImO (pS (k+1) ws) (pimpl_wordReader__stmt ⟨ws,false⟩):=by
 rw [stmtI_eq,pS_eq]
 cases ws with
 | nil =>
  rw [next_nil]
  exact ⟨_,_,rfl⟩
 | cons w r =>
  have hsr:SufS r (w::r):=suf_tail w r
  have hvr:=hsr.le.vW hv
  have hlr:r.length≤1000:=by have:=hsr.1;omega
  rw [next_cons,Option.bind_some]
  dsimp only
  by_cases h0:opK w.text=0
  ·have e1:(if decide (w.kind=4)=true then some (decide (0<opK w.text)) else some false:Option Bool)=some false:=by
    rw [h0];cases decide (w.kind=4)<;>rfl
   rw [e1,Option.bind_some]
   simp only [Bool.false_eq_true,if_false]
   by_cases hw:w.kind=1
   ·rw [if_pos (decide_eq_true hw)]
    have h5:=iWant hvr (t:=mkS [61]) rfl (by decide)
    cases hq:wT (mkS [61]) r with
    | none =>
     rw [hq] at h5
     obtain ⟨ws2,h5⟩:=h5
     have hh:headS (w::r)=none:=by simp [headS,h0,hw,hq]
     rw [h5,hh]
     exact tlI_bad ws2 2 w.text
    | some q =>
     rw [hq] at h5
     replace h5:pimpl_wordReader__want ⟨r,false⟩ 3 (mkS [61])=some ⟨q,false⟩:=h5
     have hh:headS (w::r)=some (2,w.text,q):=by simp [headS,h0,hw,hq]
     have su:=wT_suf hq
     rw [h5,hh]
     exact tlI_ok (ws:=q) (su.le.vW hvr) (by have:=su.1;omega) λx hx=>hk x (SufS.trans hx.le (SufS.trans su.le hsr))
   ·have hh : headS (w :: r) = none := by simp [headS, h0, hw]
    rw [if_neg (show ¬ decide (w.kind=1)=true by simpa using hw),hh]
    exact ⟨_,_,rfl⟩
  ·have hk4:w.kind=4:=key_kind (vW_head hv) (opK_key h0)
   have hpos:0<opK w.text:=by have:=opK_range w.text;omega
   rw [if_pos (decide_eq_true hk4),Option.bind_some,if_pos (decide_eq_true hpos)]
   by_cases hl1:opK w.text=1
   ·rw [if_pos (decide_eq_true hl1)]
    have h4:=iName (ws:=r)
    cases hn:nT r with
    | none =>
     rw [hn] at h4
     obtain ⟨x,ws2,h4⟩:=h4
     obtain ⟨ws3,h5⟩:=iWantB ws2 3 (mkS [61])
     have hh:headS (w::r)=none:=by simp [headS,hl1,hn]
     rw [h4,Option.bind_some,h5,hh]
     exact tlI_bad ws3 _ x
    | some p =>
     obtain ⟨x,p⟩:=p
     rw [hn] at h4
     have su1:=nT_suf hn
     have hvp:=su1.le.vW hvr
     replace h4:pimpl_wordReader__name ⟨r,false⟩=some (x,⟨p,false⟩):=h4
     rw [h4,Option.bind_some]
     dsimp only
     have h5:=iWant hvp (t:=mkS [61]) rfl (by decide)
     cases hq:wT (mkS [61]) p with
     | none =>
      rw [hq] at h5
      obtain ⟨ws2,h5⟩:=h5
      have hh:headS (w::r)=none:=by simp [headS,hl1,hn,hq]
      rw [h5,hh]
      exact tlI_bad ws2 _ x
     | some q =>
      rw [hq] at h5
      replace h5:pimpl_wordReader__want ⟨p,false⟩ 3 (mkS [61])=some ⟨q,false⟩:=h5
      have hh:headS (w::r)=some (1,x,q):=by simp [headS,hl1,hn,hq]
      have su:=wT_suf hq
      rw [h5,hh,hl1]
      exact tlI_ok (ws:=q) (su.le.vW hvp) (by have:=su.1;have:=su1.1;omega) λy hy=>hk y (SufS.trans hy.le (SufS.trans (su.le.trans su1.le) hsr))
   ·have hh : headS (w :: r) = some (opK w.text, mkS [], r) := by simp [headS, h0, hl1]
    rw [if_neg (show ¬ decide (opK w.text=1)=true by simpa using hl1),hh]
    exact tlI_ok (ws:=r) hvr hlr λx hx=>hk x (SufS.trans hx.le hsr)
theorem sim:∀ k:Nat,(∀ ws,2*ws.length+2≤k→vW ws→ws.length≤1000→OkS k ws∧OkI k ws) ∧
  (∀ acc ws,2*ws.length+3≤k→vW ws→acc.length+ws.length≤1000 →
   (∀ (r0:l3Reader) (n:Nat),r0.list.length≤1000→vW r0.list→AtW r0.list n ws→match pB k acc ws with
    | some p=>∃ (m:Nat) (w:Word_),AtW r0.list m (w::p.2)∧w.text=mkS [125]∧loopM (λ(xs2_1:Int × (List Stmt_))=>(Option.bind (if decide (0≤xs2_1.1) then Option.bind (pspec_l3Reader__is (⟨r0.list,xs2_1.1⟩:l3Reader) (mkS [125])) λr3_1=>some (!(r3_1)) else some false:Option (Bool)) λs2_1=>if s2_1 then Option.bind (pspec_l3Reader__stmt (⟨r0.list,xs2_1.1⟩:l3Reader)) λr2_1=>Option.bind (appM xs2_1.2 ([r2_1.1]:List Stmt_)) λys2_1=>some (.inl (r2_1.2.at_,ys2_1)) else some (.inr (xs2_1.1,xs2_1.2)):Option ((Int × (List Stmt_)) ⊕ (Int × (List Stmt_))))) ((n:Int),acc)=some ((m:Int),p.1)
    | none=>∃ acc',loopM (λ(xs2_1:Int × (List Stmt_))=>(Option.bind (if decide (0≤xs2_1.1) then Option.bind (pspec_l3Reader__is (⟨r0.list,xs2_1.1⟩:l3Reader) (mkS [125])) λr3_1=>some (!(r3_1)) else some false:Option (Bool)) λs2_1=>if s2_1 then Option.bind (pspec_l3Reader__stmt (⟨r0.list,xs2_1.1⟩:l3Reader)) λr2_1=>Option.bind (appM xs2_1.2 ([r2_1.1]:List Stmt_)) λys2_1=>some (.inl (r2_1.2.at_,ys2_1)) else some (.inr (xs2_1.1,xs2_1.2)):Option ((Int × (List Stmt_)) ⊕ (Int × (List Stmt_))))) ((n:Int),acc)=some (-1,acc')) ∧
   (match pB k acc ws with
    | some p=>loopM (λ(xs2_1:(List Word_) × Bool × (List Stmt_))=>(Option.bind (if !(xs2_1.2.1) then Option.bind (pimpl_wordReader__take (⟨xs2_1.1,xs2_1.2.1⟩:wordReader) 3 (mkS [125])) λr3_1=>some (r3_1.2.list,r3_1.2.bad,!(r3_1.1)) else some (xs2_1.1,xs2_1.2.1,false):Option ((List Word_) × Bool × Bool)) λs2_1=>if s2_1.2.2 then Option.bind (pimpl_wordReader__stmt (⟨s2_1.1,s2_1.2.1⟩:wordReader)) λr2_1=>Option.bind (appM xs2_1.2.2 ([r2_1.1]:List Stmt_)) λys2_1=>some (.inl (r2_1.2.list,r2_1.2.bad,ys2_1)) else some (.inr (xs2_1.2.2,s2_1.1,s2_1.2.1)):Option (((List Word_) × Bool × (List Stmt_)) ⊕ ((List Stmt_) × (List Word_) × Bool)))) (ws,false,acc)=some (p.1,p.2,false)
    | none=>∃ acc' ws',loopM (λ(xs2_1:(List Word_) × Bool × (List Stmt_))=>(Option.bind (if !(xs2_1.2.1) then Option.bind (pimpl_wordReader__take (⟨xs2_1.1,xs2_1.2.1⟩:wordReader) 3 (mkS [125])) λr3_1=>some (r3_1.2.list,r3_1.2.bad,!(r3_1.1)) else some (xs2_1.1,xs2_1.2.1,false):Option ((List Word_) × Bool × Bool)) λs2_1=>if s2_1.2.2 then Option.bind (pimpl_wordReader__stmt (⟨s2_1.1,s2_1.2.1⟩:wordReader)) λr2_1=>Option.bind (appM xs2_1.2.2 ([r2_1.1]:List Stmt_)) λys2_1=>some (.inl (r2_1.2.list,r2_1.2.bad,ys2_1)) else some (.inr (xs2_1.2.2,s2_1.1,s2_1.2.1)):Option (((List Word_) × Bool × (List Stmt_)) ⊕ ((List Stmt_) × (List Word_) × Bool)))) (ws,false,acc)=some (acc',ws',true))) ∧
  (∀ ws,2*ws.length+2≤k→vW ws→ws.length≤1000→(∀ list (n:Nat),list.length≤1000→vW list→AtW list n ws→SpO list (pS k ws) (pspec_l3Reader__stmt ⟨list,(n:Int)⟩))∧ImO (pS k ws) (pimpl_wordReader__stmt ⟨ws,false⟩)):=by
 intro k
 induction k with
 | zero=>exact ⟨λws h=>by omega,λacc ws h=>by omega,λws h=>by omega⟩
 | succ k ih =>
  obtain ⟨ihK,ihB,ihS⟩:=ih
  refine ⟨λws hk hv hl=>⟨λlist n hll hvl ha=>?_,?_⟩,λacc ws hk hv hl=>⟨λr0 n hll hvl ha=>?_,?_⟩,λws hk hv hl=>⟨λlist n hll hvl ha=>?_,?_⟩⟩
  ·
   rw [pspec_l3Reader__block,pK]
   have h1:=sWant hll ha (mkS [123])
   cases hq:wT (mkS [123]) ws with
   | none =>
    rw [hq] at h1
    rw [show pspec_l3Reader__want ⟨list,(n:Int)⟩ (mkS [123])=some ⟨list,-1⟩ from h1,Option.bind_some]
    refine ⟨[],bindt (bindt (loopM_inr rfl) rfl) ?_⟩
    rw [sWantB];rfl
   | some q =>
    rw [hq] at h1
    obtain ⟨m,a1,h1⟩:=h1
    have su:=wT_suf hq
    have h2:=(ihB [] q (by have:=su.1;omega) (su.le.vW hv) (by have:=su.1;simp;omega)).1 ⟨list,(n:Int)⟩ m hll hvl a1
    rw [h1,Option.bind_some,Option.bind_some]
    cases hb:pB k [] q with
    | none =>
     rw [hb] at h2
     obtain ⟨acc',h2⟩:=h2
     refine ⟨acc',bindt (bindt h2 rfl) ?_⟩
     dsimp only
     rw [sWantB];rfl
    | some p =>
     rw [hb] at h2
     obtain ⟨m2,w,a2,hw,h2⟩:=h2
     have h3:=sWant hll a2 (mkS [125])
     have hw2:wT (mkS [125]) (w::p.2)=some p.2:=by simp [wT,isT,hw]
     rw [hw2] at h3
     obtain ⟨m3,a3,h3⟩:=h3
     refine ⟨m3,a3,bindt (bindt h2 rfl) ?_⟩
     dsimp only
     rw [h3];rfl
  ·
   unfold OkI
   rw [pimpl_wordReader__block,pK]
   have h1:=iWant hv (t:=mkS [123]) rfl (by decide)
   cases hq:wT (mkS [123]) ws with
   | none =>
    rw [hq] at h1
    obtain ⟨ws',h1⟩:=h1
    rw [h1,Option.bind_some]
    exact ⟨[],ws',bindt (bindt (loopM_inr rfl) rfl) rfl⟩
   | some q =>
    rw [hq] at h1
    have su:=wT_suf hq
    replace h1:pimpl_wordReader__want ⟨ws,false⟩ 3 (mkS [123])=some ⟨q,false⟩:=h1
    have h2:=(ihB [] q (by have:=su.1;omega) (su.le.vW hv) (by have:=su.1;simp;omega)).2
    rw [h1,Option.bind_some,Option.bind_some]
    cases hb:pB k [] q with
    | none =>
     rw [hb] at h2
     obtain ⟨acc',ws',h2⟩:=h2
     exact ⟨acc',ws',bindt (bindt h2 rfl) rfl⟩
    | some p =>
     rw [hb] at h2
     exact bindt (bindt h2 rfl) rfl
  ·
   rw [pB]
   have e0:decide (0≤(n:Int))=true:=by simp
   by_cases ht:isT ws (mkS [125])=true
   ·rw [if_pos ht]
    cases ws with
    | nil=>cases ht
    | cons w r =>
     refine ⟨n,w,ha,by simpa [isT] using ht,loopM_inr ?_⟩
     dsimp only
     rw [if_pos e0,sIs ha,ht];rfl
   ·have ht : isT ws (mkS [125]) = false := by simpa using ht
    rw [if_neg (by simp [ht])]
    have h1:=(ihS ws (by omega) hv (by omega)).1 r0.list n hll hvl ha
    cases hs:pS k ws with
    | none =>
     rw [hs] at h1
     obtain ⟨s,h1⟩:=h1
     refine ⟨acc++[s],?_⟩
     rw [loopM_inl (s':=(-1,acc++[s]))]
     ·exact loopM_inr rfl
     dsimp only
     rw [if_pos e0,sIs ha,ht]
     simp only [Option.bind_some,Bool.not_false,if_true]
     rw [h1,Option.bind_some,appM_ok (show acc.length+[s].length≤2147483648 by simp;omega)];rfl
    | some p =>
     obtain ⟨s,q⟩:=p
     rw [hs] at h1
     obtain ⟨m,a1,h1⟩:=h1
     have su:=(pSK_suf k).1 _ _ _ hs
     have h2:=(ihB (acc++[s]) q (by have:=su.1;omega) (su.le.vW hv) (by have:=su.1;simp;omega)).1 r0 m hll hvl a1
     rw [Option.bind_some]
     dsimp only
     have he:loopM (λ(xs2_1:Int × (List Stmt_))=>(Option.bind (if decide (0≤xs2_1.1) then Option.bind (pspec_l3Reader__is (⟨r0.list,xs2_1.1⟩:l3Reader) (mkS [125])) λr3_1=>some (!(r3_1)) else some false:Option (Bool)) λs2_1=>if s2_1 then Option.bind (pspec_l3Reader__stmt (⟨r0.list,xs2_1.1⟩:l3Reader)) λr2_1=>Option.bind (appM xs2_1.2 ([r2_1.1]:List Stmt_)) λys2_1=>some (.inl (r2_1.2.at_,ys2_1)) else some (.inr (xs2_1.1,xs2_1.2)):Option ((Int × (List Stmt_)) ⊕ (Int × (List Stmt_))))) ((n:Int),acc)=loopM (λ(xs2_1:Int × (List Stmt_))=>(Option.bind (if decide (0≤xs2_1.1) then Option.bind (pspec_l3Reader__is (⟨r0.list,xs2_1.1⟩:l3Reader) (mkS [125])) λr3_1=>some (!(r3_1)) else some false:Option (Bool)) λs2_1=>if s2_1 then Option.bind (pspec_l3Reader__stmt (⟨r0.list,xs2_1.1⟩:l3Reader)) λr2_1=>Option.bind (appM xs2_1.2 ([r2_1.1]:List Stmt_)) λys2_1=>some (.inl (r2_1.2.at_,ys2_1)) else some (.inr (xs2_1.1,xs2_1.2)):Option ((Int × (List Stmt_)) ⊕ (Int × (List Stmt_))))) ((m:Int),acc++[s]):=by
      refine loopM_inl ?_
      dsimp only
      rw [if_pos e0,sIs ha,ht]
      simp only [Option.bind_some,Bool.not_false,if_true]
      rw [h1,Option.bind_some,appM_ok (show acc.length+[s].length≤2147483648 by simp;omega)];rfl
     rw [he]
     exact h2
  ·
   rw [pB]
   have htk:=tk_is hv (t:=mkS [125]) rfl (by decide)
   by_cases ht:isT ws (mkS [125])=true
   ·rw [if_pos ht]
    refine loopM_inr ?_
    dsimp only
    rw [if_pos (show (!false)=true from rfl),take_ok,htk,ht];rfl
   ·have ht : isT ws (mkS [125]) = false := by simpa using ht
    rw [if_neg (by simp [ht])]
    have h1:=(ihS ws (by omega) hv (by omega)).2
    cases hs:pS k ws with
    | none =>
     rw [hs] at h1
     obtain ⟨s,ws',h1⟩:=h1
     refine ⟨acc++[s],ws',?_⟩
     rw [loopM_inl (s':=(ws',true,acc++[s]))]
     ·exact loopM_inr rfl
     dsimp only
     rw [if_pos (show (!false)=true from rfl),take_ok,htk,ht]
     simp only [Option.bind_some,Bool.not_false,if_true,Bool.false_eq_true,if_false]
     rw [h1,Option.bind_some,appM_ok (show acc.length+[s].length≤2147483648 by simp;omega)];rfl
    | some p =>
     obtain ⟨s,q⟩:=p
     rw [hs] at h1
     have su:=(pSK_suf k).1 _ _ _ hs
     have h2:=(ihB (acc++[s]) q (by have:=su.1;omega) (su.le.vW hv) (by have:=su.1;simp;omega)).2
     replace h1:pimpl_wordReader__stmt ⟨ws,false⟩=some (s,⟨q,false⟩):=h1
     rw [Option.bind_some]
     dsimp only
     have he:loopM (λ(xs2_1:(List Word_) × Bool × (List Stmt_))=>(Option.bind (if !(xs2_1.2.1) then Option.bind (pimpl_wordReader__take (⟨xs2_1.1,xs2_1.2.1⟩:wordReader) 3 (mkS [125])) λr3_1=>some (r3_1.2.list,r3_1.2.bad,!(r3_1.1)) else some (xs2_1.1,xs2_1.2.1,false):Option ((List Word_) × Bool × Bool)) λs2_1=>if s2_1.2.2 then Option.bind (pimpl_wordReader__stmt (⟨s2_1.1,s2_1.2.1⟩:wordReader)) λr2_1=>Option.bind (appM xs2_1.2.2 ([r2_1.1]:List Stmt_)) λys2_1=>some (.inl (r2_1.2.list,r2_1.2.bad,ys2_1)) else some (.inr (xs2_1.2.2,s2_1.1,s2_1.2.1)):Option (((List Word_) × Bool × (List Stmt_)) ⊕ ((List Stmt_) × (List Word_) × Bool)))) (ws,false,acc)=loopM (λ(xs2_1:(List Word_) × Bool × (List Stmt_))=>(Option.bind (if !(xs2_1.2.1) then Option.bind (pimpl_wordReader__take (⟨xs2_1.1,xs2_1.2.1⟩:wordReader) 3 (mkS [125])) λr3_1=>some (r3_1.2.list,r3_1.2.bad,!(r3_1.1)) else some (xs2_1.1,xs2_1.2.1,false):Option ((List Word_) × Bool × Bool)) λs2_1=>if s2_1.2.2 then Option.bind (pimpl_wordReader__stmt (⟨s2_1.1,s2_1.2.1⟩:wordReader)) λr2_1=>Option.bind (appM xs2_1.2.2 ([r2_1.1]:List Stmt_)) λys2_1=>some (.inl (r2_1.2.list,r2_1.2.bad,ys2_1)) else some (.inr (xs2_1.2.2,s2_1.1,s2_1.2.1)):Option (((List Word_) × Bool × (List Stmt_)) ⊕ ((List Stmt_) × (List Word_) × Bool)))) (q,false,acc++[s]):=by
      refine loopM_inl ?_
      dsimp only
      rw [if_pos (show (!false)=true from rfl),take_ok,htk,ht]
      simp only [Option.bind_some,Bool.not_false,if_true,Bool.false_eq_true,if_false]
      rw [h1,Option.bind_some,appM_ok (show acc.length+[s].length≤2147483648 by simp;omega)];rfl
     rw [he]
     exact h2
  ·exact stmtS_ok hll hvl ha λr hr list n g1 g2 g3=>(ihK r (by have:=hr.1;omega) (hr.le.vW hv) (by have:=hr.1;omega)).1 list n g1 g2 g3
  ·exact stmtI_ok hv hl λr hr=>(ihK r (by have:=hr.1;omega) (hr.le.vW hv) (by have:=hr.1;omega)).2
end Prg
end Go.Wk
namespace Go.Wk
open Go
namespace Prg
set_option maxRecDepth 10000
theorem stmtsInd {P:List Stmt_→Prop} (h:∀ l:List Stmt_,(∀ s∈l,P s.body∧P s.else_)→P l):∀ l,P l:=by
 have:∀ (n:Nat) (l:List Stmt_),SizeOf.sizeOf l≤n→P l:=by
  intro n
  induction n with
  | zero=>intro l he;cases l<;>simp at he
  | succ n ih =>
   intro l he
   refine h l λs hs=>?_
   have:=List.sizeOf_lt_of_mem hs
   cases s
   simp at he this ⊢
   exact ⟨ih _ (by omega),ih _ (by omega)⟩
 exact λl=>this _ l (Nat.le_refl _)
mutual
def cntS:Stmt_→Nat
 | ⟨_,_,_,b,e⟩=>1+cntL b+cntL e
def cntL:List Stmt_→Nat
 | []=>0
 | s::l=>cntS s+cntL l
end
theorem cntS_eq (s:Stmt_):cntS s=1+cntL s.body+cntL s.else_:=by cases s;rw [cntS]
theorem cntL_cons (s:Stmt_) (l:List Stmt_):cntL (s::l)=cntS s+cntL l:=by rw [cntL]
theorem cntL_nil:cntL []=0:=by rw [cntL]
theorem cntL_app:∀ (l r:List Stmt_),cntL (l++r)=cntL l+cntL r
 | [],r=>by rw [cntL_nil,List.nil_append,Nat.zero_add]
 | k::l,r=>by rw [List.cons_append,cntL_cons,cntL_cons,cntL_app l r];omega
def cntF:List Fn_→Nat
 | []=>0
 | f::l=>cntL f.body+cntF l
theorem cntF_app:∀ (l r:List Fn_),cntF (l++r)=cntF l+cntF r
 | [],r=>by simp [cntF]
 | k::l,r=>by simp [cntF,cntF_app l r];omega
def argN (op:Int):Nat:=if op=4 then 2 else 1
def hdB (s:Stmt_):Bool:=inB s.op 1 8&&(decide (s.args.length=argN s.op)&&((if s.op=1∨s.op=2 then nameB s.name else decide (s.name=mkS []))&&(s.args.all validB&&(decide (s.op=8→(s.args[0]?).map (·.op)=some 13)&&(decide (s.else_=[]∨s.op=5)&&decide (s.body=[]∨s.op=5∨s.op=6))))))
def formS:Nat→Stmt_→Bool
 | 0,_=>false
 | d+1,s=>hdB s&&(s.body.all (formS d)&&s.else_.all (formS d))
def fnB (f:Fn_):Bool:=nameB f.name&&(decide (f.params.length≤3)&&(f.params.all nameB&&f.body.all (formS 4)))
def progB (p:Program_):Bool:=inB (p.fns.length:Int) 1 4&&(p.fns.all fnB&&decide (w64 (cntF p.fns:Int)≤40))
theorem w64_w (a:Int):w64 (w64 a)=w64 a:=by
 unfold w64;simp only [IntKind.wrap_i64];omega
theorem w64_addl (a b:Int):w64 (w64 a+b)=w64 (a+b):=by
 unfold w64;simp only [IntKind.wrap_i64];omega
theorem w64_addr (a b:Int):w64 (a+w64 b)=w64 (a+b):=by rw [Int.add_comm,w64_addl,Int.add_comm]
theorem count_ok:∀ l:List Stmt_,spec_l3Count l=some (w64 (cntL l:Int)):=by
 intro l
 induction l using stmtsInd with
 | h l ih =>
  rw [spec_l3Count]
  rcases forN_list (xs:=l) (body:=(λ(i1_1:Int) (xs1_1:Int)=>(Option.bind (getI l i1_1) λx1_1=>Option.bind (spec_l3Count x1_1.body) λr1_1=>Option.bind (spec_l3Count x1_1.else_) λr1_2=>some (.inl (w64 ((w64 (xs1_1+r1_1))+r1_2))):Option ((Int) ⊕ (Empty))))) (s:=(l.length:Int)) (λp s=>w64 s=w64 ((l.length:Int)+((cntL p:Int) - p.length))∧(p=[]→s=l.length)∧(p≠[]→w64 s=s)) (λ_=>False)
   ⟨by rw [cntL_nil]; simp, fun _ => rfl, fun h => absurd rfl h⟩ (fun p x r s he ⟨h1, h2, h3⟩ => .inl (by
    obtain ⟨g1,g2⟩:=ih x (by rw [he];simp)
    refine ⟨w64 (w64 (s+w64 (cntL x.body:Int))+w64 (cntL x.else_:Int)),?_,?_,λh=>absurd h (by simp),λ_=>w64_w _⟩
    ·have hg : getI l (p.length : Int) = some x := by rw [he, getI_mid]
     rw [hg,Option.bind_some,g1,Option.bind_some,g2,Option.bind_some]
    ·rw [w64_w,w64_addr,w64_addl,Int.add_right_comm,w64_addr,Int.add_assoc,← w64_addl s,h1,w64_addl,cntL_app,cntL_cons,cntL_nil,cntS_eq]
     congr 1
     simp
     omega)) with ⟨s,h1,h2,h3,h4⟩ | ⟨_,_,h⟩
  ·rw [h1]
   simp only [Option.bind_some,Sum.elim_inl,Option.some.injEq]
   by_cases h0:l=[]
   ·rw [h3 h0,h0,cntL_nil];rfl
   ·rw [← h4 h0,h2];congr 1;omega
  ·exact h.elim
theorem all_ok3 (p:Program_):spec_l3All p=some (w64 (cntF p.fns:Int)):=by
 unfold spec_l3All
 rcases forN_list (xs:=p.fns) (body:=(λ(i1_1:Int) (xs1_1:Int)=>(Option.bind (getI p.fns i1_1) λx1_1=>Option.bind (spec_l3Count x1_1.body) λr1_1=>some (.inl (w64 (xs1_1+r1_1))):Option ((Int) ⊕ (Empty))))) (s:=(0:Int)) (λl s=>s=w64 (cntF l:Int)) (λ_=>False) rfl (λl x r s he h=>.inl (by
   refine ⟨w64 (s+w64 (cntL x.body:Int)),?_,?_⟩
   ·have hg : getI p.fns (l.length : Int) = some x := by rw [he, getI_mid]
    rw [hg,Option.bind_some,count_ok,Option.bind_some]
   ·rw [h,w64_addr,w64_addl,cntF_app]
    congr 1)) with ⟨s,h1,h2⟩ | ⟨_,_,h⟩
 ·rw [h1,h2];rfl
 ·exact h.elim
theorem args_okS {l:List Expr_} {X:Type} {e:X}:forN (S:=Unit) (X:=X) (λi _=>Option.bind (getI l i) λx=>Option.bind (spec_ExprValid x) λb=>if !b then some (.inr e) else some (.inl ())) ((l.length:Int) - 0).toNat 0 ()=if l.all validB then some (.inl ()) else some (.inr e):=by
 rw [forN_any (xs:=l) (λk=>!validB k) e (λp x r he=>by rw [he,getI_mid,Option.bind_some,validS_E,Option.bind_some])]
 have:l.any (λk=>!validB k)=!l.all validB:=by rw [List.not_all_eq_any_not]
 rw [this]
 cases l.all validB<;>rfl
theorem args_okI {l:List Expr_} {X:Type} {e:X}:forN (S:=Unit) (X:=X) (λi _=>Option.bind (getI l i) λx=>Option.bind (impl_ExprValid x) λb=>if !b then some (.inr e) else some (.inl ())) ((l.length:Int) - 0).toNat 0 ()=if l.all validB then some (.inl ()) else some (.inr e):=by
 rw [forN_any (xs:=l) (λk=>!validB k) e (λp x r he=>by rw [he,getI_mid,Option.bind_some,valid_E,Option.bind_some])]
 have:l.any (λk=>!validB k)=!l.all validB:=by rw [List.not_all_eq_any_not]
 rw [this]
 cases l.all validB<;>rfl
theorem stmtsS_of {l:List Stmt_} {d:Int} {p:Stmt_→Bool} (h:∀ s∈l,spec_l3Stmt s d=some (p s)):spec_l3Stmts l d=some (l.all p):=by
 rw [spec_l3Stmts,forN_any (xs:=l) (body:=(λ(i1_1:Int) (xs1_1:Unit)=>(Option.bind (getI l i1_1) λx1_1=>Option.bind (spec_l3Stmt x1_1 d) λr1_1=>if !(r1_1) then some (.inr false) else some (.inl ()):Option ((Unit) ⊕ (Bool))))) (λk=>!p k) false (λq x r he=>by rw [he,getI_mid,Option.bind_some,h x (by rw [he];simp),Option.bind_some])]
 have:l.any (λk=>!p k)=!l.all p:=by rw [List.not_all_eq_any_not]
 rw [this]
 cases l.all p<;>rfl
theorem idxF {α:Type} {xs:List α} {f:α→Option Bool} {p:α→Bool} (hf:∀ x∈xs,f x=some (p x)):∃ i:Int,(Option.bind (forN (S:=Unit) (X:=Int) (λi _=>Option.bind (getI xs i) λx=>Option.bind (f x) λb=>if b then some (.inr i) else some (.inl ())) ((xs.length:Int) - 0).toNat 0 ()) (Sum.elim (λ_=>some (-1)) (λe=>some e)))=some i∧decide (0≤i)=xs.any p:=by
 rcases forN_list (xs:=xs) (body:=λi _=>Option.bind (getI xs i) λx=>Option.bind (f x) λb=>if b then some (.inr i) else some (.inl ())) (s:=()) (λl _=>l.any p=false) (λ(i:Int)=>0≤i∧xs.any p=true) rfl (λl x r s he h=>by
  have hfx:=hf x (by rw [he];simp)
  rw [he,getI_mid,Option.bind_some,hfx,Option.bind_some]
  cases hp:p x with
  | true=>exact .inr ⟨_,rfl,by omega,by simp [hp]⟩
  | false=>exact .inl ⟨(),rfl,by simp [h,hp]⟩) with ⟨s,h1,h2⟩ | ⟨i,h1,h2,h3⟩
 ·exact ⟨-1,by rw [h1];rfl,by rw [h2];rfl⟩
 ·exact ⟨i,by rw [h1];rfl,by rw [h3];simp [h2]⟩
theorem blockI_of {l:List Stmt_} {n:Int} {p:Stmt_→Bool} (h:∀ s∈l,impl_stmtOk s n=some (p s)):impl_blockOk l n=some (l.all p):=by
 rw [impl_blockOk]
 unfold slices_ContainsFunc_S_impl_Stmt_impl_Stmt slices_IndexFunc_S_impl_Stmt_impl_Stmt
 obtain ⟨i,h1,h2⟩:=idxF (xs:=l) (f:=λy0=>impl_blockOk_1 y0 n) (p:=λs=>!p s) (λs hs=>by rw [impl_blockOk_1,h s hs];rfl)
 rw [h1,Option.bind_some,Option.bind_some,h2]
 have:l.any (λk=>!p k)=!l.all p:=by rw [List.not_all_eq_any_not]
 rw [this,Bool.not_not]
theorem stmts_ok:∀ (l:List Stmt_) (d:Nat),d≤4→(∀ s∈l,spec_l3Stmt s (d:Int)=some (formS d s)∧impl_stmtOk s (5 - (d:Int))=some (formS d s)):=by
 intro l
 induction l using stmtsInd with
 | h l ih =>
  intro d hd s hs
  cases d with
  | zero =>
   constructor
   ·rw [spec_l3Stmt];rfl
   ·rw [impl_stmtOk,formS]
    unfold impl_argCount
    by_cases h1:s.op=1<;>by_cases h2:s.op=2<;>by_cases h3:s.op=3<;>by_cases h7:s.op=7<;>by_cases h8:s.op=8<;>by_cases h4:s.op=4<;>by_cases h5:s.op=5<;>by_cases h6:s.op=6<;>first | omega | simp [h1,h2,h3,h4,h5,h6,h7,h8]
  | succ d =>
   obtain ⟨ib,ie⟩:=ih s hs
   have sb:spec_l3Stmts s.body (w64 (((d+1:Nat):Int) - 1))=some (s.body.all (formS d)):=by
    rw [w64_id (by omega) (by omega),show ((d+1:Nat):Int) - 1=(d:Int) by omega]
    exact stmtsS_of λx hx=>(ib d (by omega) x hx).1
   have se:spec_l3Stmts s.else_ (w64 (((d+1:Nat):Int) - 1))=some (s.else_.all (formS d)):=by
    rw [w64_id (by omega) (by omega),show ((d+1:Nat):Int) - 1=(d:Int) by omega]
    exact stmtsS_of λx hx=>(ie d (by omega) x hx).1
   have hb:impl_blockOk s.body (w64 (5 - ((d+1:Nat):Int)+1))=some (s.body.all (formS d)):=by
    rw [w64_id (by omega) (by omega),show 5 - ((d+1:Nat):Int)+1=5 - (d:Int) by omega]
    exact blockI_of λx hx=>(ib d (by omega) x hx).2
   have he:impl_blockOk s.else_ (w64 (5 - ((d+1:Nat):Int)+1))=some (s.else_.all (formS d)):=by
    rw [w64_id (by omega) (by omega),show 5 - ((d+1:Nat):Int)+1=5 - (d:Int) by omega]
    exact blockI_of λx hx=>(ie d (by omega) x hx).2
   have c0:decide (((d+1:Nat):Int)<1)=false:=by simp;omega
   have c0':decide ((4:Int)<5 - ((d+1:Nat):Int))=false:=by simp;omega
   have c5:∀ b:Int,decide (0<b)=decide (0<b):=λ_=>rfl
   have eB:decide (0<(s.body.length:Int))=!decide (s.body=[]):=by cases s.body<;>simp
   have eE:decide (0<(s.else_.length:Int))=!decide (s.else_=[]):=by cases s.else_<;>simp
   have hN:s.name=mkS []→nameB s.name=false:=λh=>by rw [h];rfl
   have c3:(if decide (decide (s.op=1∨s.op=2)≠nameB s.name)=true then some true else if (!decide (s.op=1∨s.op=2))=true then some (decide (s.name≠mkS [])) else some false:Option Bool)=some (!(if s.op=1∨s.op=2 then nameB s.name else decide (s.name=mkS []))):=by
    by_cases h:s.op=1∨s.op=2<;>by_cases h2:s.name=mkS []
    ·rw [hN h2];simp [h]
    ·cases nameB s.name<;>simp [h]
    ·rw [hN h2];simp [h,h2]
    ·cases nameB s.name<;>simp [h,h2]
   have c4:s.args.length=argN s.op→(if decide (s.op=8)=true then Option.bind (getI s.args 0) λx=>some (decide (x.op≠13)) else some false:Option Bool)=some (!decide (s.op=8→(s.args[0]?).map (·.op)=some 13)):=by
    intro hl
    by_cases h:s.op=8
    ·have h1 : s.args.length = 1 := by rw [hl, h]; rfl
     obtain ⟨a,ha⟩:∃ a,s.args=[a]:=List.length_eq_one_iff.1 h1
     rw [ha]
     simp [h,getI]
    ·simp [h]
   constructor
   ·have c6:(if decide (0<(s.else_.length:Int))=true then if decide (s.op≠5)=true then some true else if decide (0<(s.body.length:Int))=true then some false else some false else if decide (0<(s.body.length:Int))=true then if decide (s.op≠5)=true then some (decide (s.op≠6)) else some false else some false:Option Bool)=some (!(decide (s.else_=[]∨s.op=5)&&decide (s.body=[]∨s.op=5∨s.op=6))):=by
     rw [eB,eE]
     by_cases h1:s.else_=[]<;>by_cases h2:s.body=[]<;>by_cases h3:s.op=5<;>by_cases h4:s.op=6<;>simp [h1,h2,h3,h4]
    rw [spec_l3Stmt,formS,c0]
    simp only [l1In_ok,nameS_ok,Option.bind_some,sb,se,args_okS,Bool.false_eq_true,if_false]
    unfold hdB
    cases inB s.op 1 8 with
    | false=>rfl
    | true =>
    have ea:spec_l3Args s.op=some (argN s.op:Int):=by
     unfold spec_l3Args argN
     by_cases h:s.op=4<;>simp [h]
    rw [ea]
    simp only [Bool.not_true,Bool.false_eq_true,if_false,Option.bind_some,Bool.true_and]
    by_cases hl:s.args.length=argN s.op
    ·have e1 : decide ((s.args.length : Int) ≠ (argN s.op : Int)) = false := by simp; omega
     have e2:(if decide (s.op=1)=true then some true else some (decide (s.op=2)):Option Bool)=some (decide (s.op=1∨s.op=2)):=by by_cases h:s.op=1<;>simp [h]
     rw [e1,e2,c4 hl,c6]
     simp only [Bool.false_eq_true,if_false,Option.bind_some,c3,hl,decide_true,Bool.true_and]
     cases (if s.op=1∨s.op=2 then nameB s.name else decide (s.name=mkS [])) with
     | false=>rfl
     | true =>
     cases s.args.all validB with
     | false=>rfl
     | true =>
     cases decide (s.op=8→(s.args[0]?).map (·.op)=some 13) with
     | false=>rfl
     | true =>
     cases decide (s.else_=[]∨s.op=5) with
     | false=>rfl
     | true =>
     cases decide (s.body=[]∨s.op=5∨s.op=6) with
     | false=>rfl
     | true =>
     cases s.body.all (formS d)<;>cases s.else_.all (formS d)<;>rfl
    ·have e1 : decide ((s.args.length : Int) ≠ (argN s.op : Int)) = true := by simp; omega
     rw [e1,decide_eq_false hl];rfl
   ·have ea:impl_argCount s.op=some (if inB s.op 1 8 then ((argN s.op:Int),decide (s.op=1∨s.op=2),decide (s.op=5∨s.op=6),decide (s.op=5)) else (-1,false,false,false)):=by
     by_cases h:inB s.op 1 8=true
     ·have:s.op=1∨s.op=2∨s.op=3∨s.op=4∨s.op=5∨s.op=6∨s.op=7∨s.op=8:=by
       unfold inB at h
       simp at h
       omega
      rcases this with h | h | h | h | h | h | h | h<;>rw [h]<;>rfl
     ·have h : inB s.op 1 8 = false := by simpa using h
      rw [h]
      have h':s.op≠1∧s.op≠2∧s.op≠3∧s.op≠4∧s.op≠5∧s.op≠6∧s.op≠7∧s.op≠8:=by
       unfold inB at h
       simp at h
       omega
      unfold impl_argCount
      simp [h']
    rw [impl_stmtOk,formS,ea,Option.bind_some,c0']
    simp only [name_ok,Option.bind_some,hb,he,args_okI,Bool.false_eq_true,if_false]
    unfold hdB
    cases inB s.op 1 8 with
    | false =>
     have e1:decide ((s.args.length:Int)≠-1)=true:=by simp
     simp only [Bool.false_eq_true,if_false,e1,if_true,Option.bind_some,Bool.false_and]
    | true =>
    simp only [if_true,Bool.true_and]
    by_cases hl:s.args.length=argN s.op
    ·have e1 : decide ((s.args.length : Int) ≠ (argN s.op : Int)) = false := by simp; omega
     have e3:decide (s.op=5∨s.op=6)=true→s.else_=s.else_:=λ_=>rfl
     rw [e1,c4 hl,eB,eE]
     simp only [Bool.false_eq_true,if_false,hl,decide_true,Bool.true_and]
     by_cases hn:s.op=1∨s.op=2
     ·have h5 : ¬ s.op = 5 := by omega
      have h6:¬ s.op=6:=by omega
      have h8:¬ s.op=8:=by omega
      simp only [hn,h5,h6,h8,decide_true,decide_false,if_true,or_self,or_false,false_implies,Bool.not_true,Bool.not_false,Bool.false_eq_true,if_false,Option.bind_some,Bool.true_and]
      cases nameB s.name with
      | false=>rfl
      | true =>
      by_cases p1:s.body=[]
      ·by_cases p2:s.else_=[]
       ·simp only [p1,p2,decide_true,Bool.not_true,Bool.not_false,Bool.false_eq_true,if_false,Option.bind_some,if_true,Bool.and_true,Bool.true_and]
        cases s.args.all validB<;>rfl
       ·simp only [p1,p2,decide_true,decide_false,Bool.not_true,Bool.not_false,Bool.false_eq_true,if_false,Option.bind_some,if_true,Bool.and_false,Bool.false_and,Bool.and_true,Bool.true_and]
      ·simp only [p1,decide_false,Bool.not_true,Bool.not_false,Bool.false_eq_true,if_false,Option.bind_some,if_true,Bool.and_false,Bool.false_and,Bool.and_true,Bool.true_and]
     ·simp only [hn,decide_false,Bool.not_false,Bool.false_eq_true,if_false,Option.bind_some,if_true]
      by_cases p0:s.name=mkS []
      ·simp only [p0,ne_eq,not_true_eq_false,decide_false,decide_true,Bool.false_eq_true,if_false,Option.bind_some,Bool.true_and]
       by_cases q5:s.op=5
       ·have h8 : ¬ s.op = 8 := by omega
        simp only [q5,true_or,or_true,decide_true,Bool.not_true,Bool.false_eq_true,if_false,Option.bind_some,Bool.and_true,Bool.not_false,show ((5:Int)=8)=False from by simp,false_implies,show ((5:Int)=6)=False from by simp]
        cases s.args.all validB with
        | false=>rfl
        | true=>cases s.body.all (formS d)<;>cases s.else_.all (formS d)<;>rfl
       ·by_cases q6:s.op=6
        ·simp only [q6, or_true, decide_true, Bool.not_true, Bool.false_eq_true, if_false, Option.bind_some, show ((6 : Int) = 8) = False from by simp, show ((6 : Int) = 5) = False from by simp, false_implies, decide_false, Bool.not_false, if_true, or_false, false_or]
         by_cases p2:s.else_=[]
         ·simp only [p2,decide_true,Bool.not_true,Bool.false_eq_true,if_false,Option.bind_some,Bool.true_and]
          cases s.args.all validB with
          | false=>rfl
          | true=>cases s.body.all (formS d)<;>rfl
         ·simp only [p2,decide_false,Bool.not_false,if_true,Option.bind_some,Bool.false_and,Bool.and_false,Bool.true_and]
        ·simp only [q5,q6,or_false,decide_false,Bool.not_false,if_true,Option.bind_some]
         by_cases p1:s.body=[]
         ·by_cases p2:s.else_=[]
          ·simp only [p1,p2,decide_true,Bool.not_true,Bool.not_false,Bool.false_eq_true,if_false,Option.bind_some,Bool.and_true,Bool.true_and]
           cases decide (s.op=8→(s.args[0]?).map (·.op)=some 13) with
           | false=>simp
           | true=>cases s.args.all validB<;>rfl
          ·simp only [p1,p2,decide_true,decide_false,Bool.not_true,Bool.not_false,Bool.false_eq_true,if_false,if_true,Option.bind_some,Bool.and_false,Bool.false_and]
         ·simp only [p1,decide_false,Bool.not_false,if_true,Option.bind_some,Bool.and_false,Bool.false_and]
      ·simp only [p0,ne_eq,not_false_eq_true,decide_true,decide_false,if_true,Option.bind_some,Bool.false_and]
    ·have e1 : decide ((s.args.length : Int) ≠ (argN s.op : Int)) = true := by simp; omega
     rw [e1,decide_eq_false hl];rfl
end Prg
end Go.Wk
namespace Go.Wk
open Go
namespace Prg
set_option maxRecDepth 10000
theorem stmtsC:∀ (l:List Stmt_) (nest c d:Int),∃ r,impl_stmts l nest (c,d)=some r∧w64 r.1=w64 (c+cntL l)∧(w64 c=c→w64 r.1=r.1):=by
 intro l
 induction l using stmtsInd with
 | h l ih =>
  intro nest c d
  rw [impl_stmts]
  rcases forN_list (xs:=l) (body:=(λ(i1_1:Int) (xs1_1:Int × Int)=>(Option.bind (getI l i1_1) λx1_1=>Option.bind (impl_stmts x1_1.body (w64 (nest+1)) (w64 (xs1_1.1+1),maxI xs1_1.2 nest)) λr1_1=>Option.bind (impl_stmts x1_1.else_ (w64 (nest+1)) r1_1) λr1_2=>some (.inl r1_2):Option ((Int × Int) ⊕ (Empty))))) (s:=(c,d)) (λp s=>w64 s.1=w64 (c+cntL p)∧(w64 c=c→w64 s.1=s.1)) (λ_=>False)
   ⟨by rw [cntL_nil]; simp, fun h => h⟩ (fun p x r s he ⟨h1, h2⟩ => .inl (by
    obtain ⟨g1,g2⟩:=ih x (by rw [he];simp)
    obtain ⟨r1,a1,a2,a3⟩:=g1 (w64 (nest+1)) (w64 (s.1+1)) (maxI s.2 nest)
    obtain ⟨r2,b1,b2,b3⟩:=g2 (w64 (nest+1)) r1.1 r1.2
    have hg:getI l (p.length:Int)=some x:=by rw [he,getI_mid]
    refine ⟨r2,?_,?_,λ_=>b3 (a3 (w64_w _))⟩
    ·rw [hg,Option.bind_some,a1,Option.bind_some,b1,Option.bind_some]
    ·rw [b2,← w64_addl,a2,w64_addl,Int.add_assoc,w64_addl,Int.add_assoc,← w64_addl s.1,h1,w64_addl,cntL_app,cntL_cons,cntL_nil,cntS_eq]
     congr 1
     simp
     omega)) with ⟨s,h1,h2,h3⟩ | ⟨_,_,h⟩
  ·exact ⟨s,by rw [h1];rfl,h2,h3⟩
  ·exact h.elim
theorem measure_ok (p:Program_):∃ d,impl_measure p=some (w64 (cntF p.fns:Int),d):=by
 unfold impl_measure
 rcases forN_list (xs:=p.fns) (body:=(λ(i1_1:Int) (xs1_1:Int × Int)=>(Option.bind (getI p.fns i1_1) λx1_1=>Option.bind (impl_stmts x1_1.body 1 (xs1_1.1,xs1_1.2)) λr1_1=>some (.inl (r1_1.1,r1_1.2)):Option ((Int × Int) ⊕ (Empty))))) (s:=((0:Int),(0:Int))) (λl s=>w64 s.1=w64 (cntF l:Int)∧w64 s.1=s.1) (λ_=>False)
  ⟨rfl,rfl⟩ (λl x r s he ⟨h1,h2⟩=>.inl (by
   obtain ⟨r1,a1,a2,a3⟩:=stmtsC x.body 1 s.1 s.2
   have hg:getI p.fns (l.length:Int)=some x:=by rw [he,getI_mid]
   refine ⟨(r1.1,r1.2),?_,?_,a3 h2⟩
   ·rw [hg,Option.bind_some,a1,Option.bind_some]
   ·show w64 r1.1 = _
    rw [a2,← w64_addl,h1,w64_addl,cntF_app]
    congr 1)) with ⟨s,h1,h2,h3⟩ | ⟨_,_,h⟩
 ·exact ⟨s.2,by rw [h1,← h2,h3];rfl⟩
 ·exact h.elim
theorem names_ok {l:List Str} {X:Type} {e:X}:forN (S:=Unit) (X:=X) (λi _=>Option.bind (getI l i) λx=>Option.bind (spec_IsName x) λb=>if !b then some (.inr e) else some (.inl ())) ((l.length:Int) - 0).toNat 0 ()=if l.all nameB then some (.inl ()) else some (.inr e):=by
 rw [forN_any (xs:=l) (λk=>!nameB k) e (λp x r he=>by rw [he,getI_mid,Option.bind_some,nameS_ok,Option.bind_some])]
 have:l.any (λk=>!nameB k)=!l.all nameB:=by rw [List.not_all_eq_any_not]
 rw [this]
 cases l.all nameB<;>rfl
theorem fnS_ok (f:Fn_):spec_l3Fn f=some (fnB f):=by
 unfold spec_l3Fn fnB
 rw [names_ok]
 have h1:spec_l3Stmts f.body 4=some (f.body.all (formS 4)):=stmtsS_of λs hs=>(stmts_ok f.body 4 (by omega) s hs).1
 rw [nameS_ok,h1]
 have e1:decide ((f.params.length:Int)≤3)=decide (f.params.length≤3):=by
  rw [decide_eq_decide];omega
 rw [e1]
 cases f.params.all nameB with
 | false=>cases nameB f.name<;>cases decide (f.params.length≤3)<;>rfl
 | true=>cases nameB f.name<;>cases decide (f.params.length≤3)<;>cases f.body.all (formS 4)<;>rfl
theorem progS_ok (p:Program_):spec_ProgramValid p=some (progB p):=by
 unfold spec_ProgramValid progB
 rw [l1In_ok,Option.bind_some,all_ok3]
 rw [forN_any (xs:=p.fns) (body:=(λ(i1_1:Int) (xs1_1:Unit)=>(Option.bind (getI p.fns i1_1) λx1_1=>Option.bind (spec_l3Fn x1_1) λr1_1=>if !(r1_1) then some (.inr false) else some (.inl ()):Option ((Unit) ⊕ (Bool))))) (λf=>!fnB f) false (λl x r he=>by
  have hg:getI p.fns (l.length:Int)=some x:=by rw [he,getI_mid]
  rw [hg,Option.bind_some,fnS_ok,Option.bind_some])]
 have:p.fns.any (λk=>!fnB k)=!p.fns.all fnB:=by rw [List.not_all_eq_any_not]
 rw [this]
 cases inB (p.fns.length:Int) 1 4 with
 | false=>rfl
 | true=>cases p.fns.all fnB<;>rfl
theorem fnI_ok (f:Fn_):(Option.bind (impl_IsName f.name) λr=>if !r then some true else if decide (3<(f.params.length:Int)) then some true else Option.bind (slices_ContainsFunc_S_string_string f.params (λy0=>impl_ProgramValid_1 y0)) λr2=>if r2 then some true else Option.bind (impl_blockOk f.body 1) λr3=>some (!r3))=some (!fnB f):=by
 have h1:impl_blockOk f.body 1=some (f.body.all (formS 4)):=blockI_of λs hs=>(stmts_ok f.body 4 (by omega) s hs).2
 have h2:slices_ContainsFunc_S_string_string f.params (λy0=>impl_ProgramValid_1 y0)=some (!f.params.all nameB):=by
  unfold slices_ContainsFunc_S_string_string slices_IndexFunc_S_string_string
  obtain ⟨i,g1,g2⟩:=idxF (xs:=f.params) (f:=λy0=>impl_ProgramValid_1 y0) (p:=λs=>!nameB s) (λs _=>by unfold impl_ProgramValid_1;rw [name_ok];rfl)
  rw [g1,Option.bind_some,g2]
  have:f.params.any (λk=>!nameB k)=!f.params.all nameB:=by rw [List.not_all_eq_any_not]
  rw [this]
 have e1:decide (3<(f.params.length:Int))=!decide (f.params.length≤3):=by
  by_cases h:f.params.length≤3
  ·rw [decide_eq_true h];simp;omega
  ·rw [decide_eq_false h];simp;omega
 rw [name_ok,Option.bind_some,h1,h2,e1]
 unfold fnB
 cases nameB f.name<;>cases decide (f.params.length≤3)<;>cases f.params.all nameB<;>cases f.body.all (formS 4)<;>rfl
theorem progI_ok (p:Program_):impl_ProgramValid p=some (progB p):=by
 unfold impl_ProgramValid progB
 obtain ⟨d,hm⟩:=measure_ok p
 rw [within_ok,Option.bind_some,hm]
 rw [forN_any (xs:=p.fns) (body:=(λ(i1_1:Int) (xs1_1:Unit)=>(Option.bind (getI p.fns i1_1) λx1_1=>Option.bind (Option.bind (impl_IsName x1_1.name) λr2_1=>if !(r2_1) then some true else if decide (3<((x1_1.params.length:Int))) then some true else Option.bind (slices_ContainsFunc_S_string_string x1_1.params (λy0=>impl_ProgramValid_1 y0)) λr2_2=>if r2_2 then some true else Option.bind (impl_blockOk x1_1.body 1) λr2_3=>some (!(r2_3)):Option (Bool)) λs1_1=>if s1_1 then some (.inr false) else some (.inl ()):Option ((Unit) ⊕ (Bool))))) (λf=>!fnB f) false (λl x r he=>by
  have hg:getI p.fns (l.length:Int)=some x:=by rw [he,getI_mid]
  rw [hg,Option.bind_some,fnI_ok,Option.bind_some])]
 have:p.fns.any (λk=>!fnB k)=!p.fns.all fnB:=by rw [List.not_all_eq_any_not]
 rw [this]
 cases inB (p.fns.length:Int) 1 4 with
 | false=>rfl
 | true=>cases p.fns.all fnB<;>rfl
end Prg
end Go.Wk
namespace Go.Wk
open Go
namespace Prg
set_option maxRecDepth 10000
def GIn (g:l3Gen) (p:Int):Prop:=(∀ s∈g.vars,nameB s=true)∧(g.vars.length:Int)≤p+3∧(∀ f∈g.fns,f.params.length≤3)∧(-1≤g.next_∧g.next_≤p)∧(-3*p - 10≤g.left∧g.left≤1000)
def GOut {A:Type} (b:List UInt8) (g:l3Gen) (p lo hi c:Int) (Q:A→Prop) (r:A × l3Gen × l30Rd):Prop:=(r.2.2.b=b∧lo≤r.2.2.p∧r.2.2.p≤hi)∧(GIn r.2.1 r.2.2.p∧r.2.1.fns=g.fns∧g.left - 3*(r.2.2.p - p)+c≤r.2.1.left)∧Q r.1
theorem DrG.bind {A B:Type} {o:Option (A × l3Gen × l30Rd)} {b:List UInt8} {g:l3Gen} {p lo hi c:Int} {P:A→Prop} {Q:B→Prop} {f:A × l3Gen × l30Rd→Option B} (h:Dr o (GOut b g p lo hi c P)) (k:∀ v g' q,lo≤q→q≤hi→GIn g' q→g'.fns=g.fns→g.left - 3*(q - p)+c≤g'.left→P v→Dr (f (v,g',⟨b,q⟩)) Q):Dr (Option.bind o f) Q:=by
 obtain ⟨⟨v,g',⟨b',q⟩⟩,h1,⟨h2,h3,h4⟩,⟨h5,h6,h10⟩,h7⟩:=h
 simp only at h2 h3 h4 h5 h6 h7 h10
 subst h2
 obtain ⟨c,h8,h9⟩:=k v g' q h3 h4 h5 h6 h10 h7
 exact ⟨c,bindt h1 h8,h9⟩
section
variable {b:List UInt8} (hb:b.length≤2000)
theorem fresh_dr {g:l3Gen} {p:Int} (hb:b.length≤2000) (h0:0≤p) (h1:p≤800000) (hg:GIn g p):Dr (pspec_l3Gen__fresh g ⟨b,p⟩) (GOut b g p (p+1) (p+2) 3 (λs=>nameB s=true)):=by
 obtain ⟨g1,g2,g3,⟨g4,g5⟩,g6,g7⟩:=hg
 unfold pspec_l3Gen__fresh
 have ew:w64 (g.next_+1)=g.next_+1:=w64_id (by omega) (by omega)
 refine Dr.bind (P:=λs:Int × Bool=>s.1=p+1∧(s.2=true→0<g.vars.length)) ?_ λs hs=>?_
 ·refine pk hb h0 (by omega) fun v _ _ => ?_
  dsimp only
  refine Dr.ite (λ_=>Dr.some ⟨rfl,λh=>?_⟩) λ_=>Dr.some ⟨rfl,λh=>by cases h⟩
  have:=of_decide_eq_true h
  omega
 obtain ⟨s1,s2⟩:=hs
 dsimp only
 rw [s1,ew]
 refine Dr.ite (λhc=>?_) λ_=>?_
 ·refine ofx hb (s2 hc) (by omega) (by omega) λv hv=>Dr.some ⟨⟨rfl,by dsimp only;omega,by dsimp only;omega⟩,⟨⟨g1,by dsimp only;omega,g3,⟨by dsimp only;omega,by dsimp only;omega⟩,by dsimp only;omega,by dsimp only;omega⟩,rfl,by dsimp only;omega⟩,g1 v hv⟩
 ·obtain ⟨m,hm,hm2⟩:∃ m:Nat,g.next_+1=(m:Int)∧(g.next_+1).tmod 24=((m % 24:Nat):Int):=by
   refine ⟨(g.next_+1).toNat,by omega,?_⟩
   have:g.next_+1=((g.next_+1).toNat:Int):=by omega
   rw [this]
   have e:=Int.tmod_eq_emod_of_nonneg (a:=(((g.next_+1).toNat:Nat):Int)) (b:=24) (by omega)
   rw [e]
   omega
  have hlt:m % 24<24:=Nat.mod_lt _ (by decide)
  rw [hm2,w64_id (by omega) (by omega)]
  generalize m % 24=j at hlt
  have key:∀ j:Fin 24,∃ s:Str,subS (mkS [97,98,99,100,101,103,104,105,106,107,108,109,110,112,113,114,115,116,117,118,119,120,121,122]) ((j.val:Nat):Int) (((j.val:Nat):Int)+1)=some s∧nameB s=true:=by
   intro j
   match j with
   | ⟨0,_⟩=>exact ⟨_,rfl,rfl⟩
   | ⟨1,_⟩=>exact ⟨_,rfl,rfl⟩
   | ⟨2,_⟩=>exact ⟨_,rfl,rfl⟩
   | ⟨3,_⟩=>exact ⟨_,rfl,rfl⟩
   | ⟨4,_⟩=>exact ⟨_,rfl,rfl⟩
   | ⟨5,_⟩=>exact ⟨_,rfl,rfl⟩
   | ⟨6,_⟩=>exact ⟨_,rfl,rfl⟩
   | ⟨7,_⟩=>exact ⟨_,rfl,rfl⟩
   | ⟨8,_⟩=>exact ⟨_,rfl,rfl⟩
   | ⟨9,_⟩=>exact ⟨_,rfl,rfl⟩
   | ⟨10,_⟩=>exact ⟨_,rfl,rfl⟩
   | ⟨11,_⟩=>exact ⟨_,rfl,rfl⟩
   | ⟨12,_⟩=>exact ⟨_,rfl,rfl⟩
   | ⟨13,_⟩=>exact ⟨_,rfl,rfl⟩
   | ⟨14,_⟩=>exact ⟨_,rfl,rfl⟩
   | ⟨15,_⟩=>exact ⟨_,rfl,rfl⟩
   | ⟨16,_⟩=>exact ⟨_,rfl,rfl⟩
   | ⟨17,_⟩=>exact ⟨_,rfl,rfl⟩
   | ⟨18,_⟩=>exact ⟨_,rfl,rfl⟩
   | ⟨19,_⟩=>exact ⟨_,rfl,rfl⟩
   | ⟨20,_⟩=>exact ⟨_,rfl,rfl⟩
   | ⟨21,_⟩=>exact ⟨_,rfl,rfl⟩
   | ⟨22,_⟩=>exact ⟨_,rfl,rfl⟩
   | ⟨23,_⟩=>exact ⟨_,rfl,rfl⟩
   | ⟨n+24,h⟩=>exact absurd h (by omega)
  obtain ⟨s',k1,k2⟩:=key ⟨j,hlt⟩
  dsimp only at k1
  rw [k1]
  exact Dr.some ⟨⟨rfl,by dsimp only;omega,by dsimp only;omega⟩,⟨⟨g1,by dsimp only;omega,g3,⟨by dsimp only;omega,by dsimp only;omega⟩,by dsimp only;omega,by dsimp only;omega⟩,rfl,by dsimp only;omega⟩,k2⟩
theorem ex_dr {names:List Str} (hb:b.length≤2000) (hn:∀ s∈names,nameB s=true) {p:Int} (h0:0≤p) (h1:p≤800000) {d:Nat} (hd:d≤2):DrA (spec_l2Expr ⟨b,p⟩ names ((d+1:Nat):Int)) b p (p+64) (λ_=>True):=by
 have hp:(4:Int) ^ (d+1)≤64:=by
  have:d=0∨d=1∨d=2:=by omega
  rcases this with rfl | rfl | rfl<;>decide
 refine Dr.mono (expr_dr hb hn d p (by omega) h0 (by omega)) λr hr=>⟨⟨hr.1.1,hr.1.2.1,by have:=hr.1.2.2;omega⟩,trivial⟩
theorem ex2_dr {names:List Str} (hb:b.length≤2000) (hn:∀ s∈names,nameB s=true) {p:Int} (h0:0≤p) (h1:p≤800000):DrA (spec_l2Expr ⟨b,p⟩ names 2) b p (p+16) (λ_=>True):=by
 have:=expr_dr hb hn 1 p (by omega) h0 (by simp;omega)
 refine Dr.mono this λr hr=>⟨⟨hr.1.1,hr.1.2.1,by have:=hr.1.2.2;simp at this;omega⟩,trivial⟩
theorem gexpr_dr {g:l3Gen} {p:Int} (hb:b.length≤2000) (h0:0≤p) (h1:p≤700000) (hg:GIn g p) {d:Nat} (hd:d≤2):DrA (pspec_l3Gen__expr g ⟨b,p⟩ ((d+1:Nat):Int)) b p (p+140) (λ_=>True):=by
 obtain ⟨g1,g2,g3,g4,g5⟩:=hg
 unfold pspec_l3Gen__expr
 refine Dr.bind (P:=λs:Int × Int × Str × List Expr_ × Int=>p≤s.2.2.2.2∧s.2.2.2.2≤p+64) ?_ λs hs=>?_
 ·exact DrA.bind (ex_dr hb g1 h0 (by omega) hd) λe q k1 k2 _=>Dr.some ⟨k1,k2⟩
 obtain ⟨s1,s2⟩:=hs
 refine Dr.bind (P:=λz:Bool × Int=>p≤z.2∧z.2≤p+65∧(z.1=false→0<g.fns.length)) ?_ λz hz=>?_
 ·refine Dr.ite (fun _ => Dr.some ⟨s1, by dsimp only; omega, fun h => by cases h⟩) fun hf => ?_
  have hf2:=of_decide_eq_false hf
  exact pk hb (by omega) (by omega) λv _ _=>Dr.some ⟨by dsimp only;omega,by dsimp only;omega,λ_=>by omega⟩
 obtain ⟨z1,z2,z3⟩:=hz
 refine Dr.ite (λ_=>DrF (lo:=p) (hi:=p+140) (P:=λ_=>True) rfl z1 (by dsimp only;omega) trivial) λhf=>?_
 have hlen:=z3 hf
 refine Dr.bind (P:=λf:Str × List Str × List Stmt_ × Int=>f.2.1.length≤3∧p≤f.2.2.2∧f.2.2.2≤p+66) ?_ λf hfz=>?_
 ·refine pk hb (by omega) (by omega) fun v v0 v1 => ?_
  dsimp only
  exact gtx v0 (v1 (by omega)) λx hx=>Dr.some ⟨g3 x hx,by dsimp only;omega,by dsimp only;omega⟩
 obtain ⟨f1,f2,f3⟩:=hfz
 have e0:(((f.2.1.length:Int)) - 0).toNat=f.2.1.length:=by omega
 rw [e0]
 refine Dr.forN (I:=λj (s:List Expr_ × Int)=>(s.1.length:Int)=j∧p≤s.2∧s.2≤p+66+16*j) ⟨rfl,f2,by dsimp only;omega⟩ (λj s j0 j1 hI=>?_) λs hI=>?_
 ·refine DrA.bind (ex2_dr hb g1 (by omega) (by omega)) fun e q k1 k2 _ => ?_
  dsimp only
  refine ap (by simp;omega) (Dr.some λt ht=>?_)
  simp only [Sum.inl.injEq] at ht
  subst ht
  exact ⟨by simp;omega,by dsimp only;omega,by dsimp only;omega⟩
 ·refine pk hb (by omega) (by omega) fun v _ _ => ?_
  dsimp only
  refine Dr.ite (λ_=>DrF (lo:=p) (hi:=p+140) (P:=λ_=>True) rfl (by dsimp only;omega) (by dsimp only;omega) trivial) λ_=>?_
  refine nm hb (by decide) (by omega) (by omega) λop _=>?_
  dsimp only
  exact DrA.bind (ex2_dr hb g1 (by omega) (by omega)) λe q k1 k2 _=>DrF (lo:=p) (hi:=p+140) (P:=λ_=>True) rfl (by dsimp only;omega) (by dsimp only;omega) trivial
theorem cell_dr {g:l3Gen} {p:Int} (hb:b.length≤2000) (h0:0≤p) (h1:p≤700000) (hg:GIn g p):DrA (pspec_l3Gen__cell g ⟨b,p⟩) b p (p+141) (λ_=>True):=by
 unfold pspec_l3Gen__cell
 refine Dr.bind (P:=λs:List Expr_ × Int=>p≤s.2∧s.2≤p+141) ?_ λs hs=>DrF (lo:=p) (hi:=p+141) (P:=λ_=>True) rfl hs.1 hs.2 trivial
 refine DrA.bind (gexpr_dr hb h0 h1 hg (d:=1) (by omega)) λe q k1 k2 _=>?_
 dsimp only
 exact nm hb (by decide) (by omega) (by omega) λv _=>Dr.some ⟨by dsimp only;omega,by dsimp only;omega⟩
theorem let_dr {g:l3Gen} {p:Int} (hb:b.length≤2000) (h0:0≤p) (h1:p≤700000) (hg:GIn g p) (e:Expr_):Dr (pspec_l3Gen__let g ⟨b,p⟩ e) (GOut b g p (p+1) (p+2) 3 (λs=>nameB s.name=true∧cntS s=1)):=by
 unfold pspec_l3Gen__let
 refine DrG.bind (fresh_dr hb h0 (by omega) hg) λs g' q k1 k2 kg kf kl ks=>?_
 obtain ⟨a1,a2,a3,a4,a5⟩:=hg
 obtain ⟨b1,b2,b3,b4,b5⟩:=kg
 refine ap (by simp;omega) ?_
 rw [List.nil_append]
 refine ap (by simp;omega) ?_
 refine Dr.some ⟨⟨rfl,k1,k2⟩,⟨⟨λx hx=>?_,?_,a3,b4,b5⟩,rfl,kl⟩,ks,by rw [cntS_eq,cntL_nil]⟩
 ·rcases List.mem_append.1 hx with h | h
  ·exact a1 x h
  ·simp at h;subst h;exact ks
 ·simp
  omega
end
end Prg
end Go.Wk
namespace Go.Wk
open Go
namespace Prg
set_option maxRecDepth 10000
def BlkD (d:Nat) (K:Int) (C:Nat):Prop:=∀ (b:List UInt8) (g:l3Gen) (p:Int),b.length≤2000→0≤p→p≤690000 - 120000*(d:Int)→GIn g p→Dr (pspec_l3Gen__block g ⟨b,p⟩ (d:Int)) (GOut b g p (p+1) (p+K) 3 (λl=>cntL l≤C∧l.length≤1000))
def SomD (d:Nat) (K:Int) (C:Nat):Prop:=∀ (b:List UInt8) (g:l3Gen) (p:Int),b.length≤2000→0≤p→p≤795000 - 120000*(d:Int)→GIn g p→Dr (pspec_l3Gen__some g ⟨b,p⟩ (d:Int)) (GOut b g p (p+1) (p+K) 0 (λl=>cntL l≤C∧l.length≤2))
theorem GIn.mono {g:l3Gen} {p q:Int} (h:GIn g p) (hq:p≤q):GIn g q:=by
 obtain ⟨h1,h2,h3,⟨h4,h5⟩,h6,h7⟩:=h
 exact ⟨h1,by omega,h3,⟨h4,by omega⟩,by omega,h7⟩
theorem block_of {d:Nat} (hd:1≤d) {K:Int} {C:Nat} (hK:1≤K∧K≤25000) (hC:C≤100) (hs:SomD d K C):BlkD d (1+4*K) (4*C):=by
 intro b g p hb h0 h1 hg
 rw [pspec_l3Gen__block]
 refine nm hb (by decide) h0 (by omega) λn hn=>?_
 dsimp only
 have hn2:1≤n∧n≤4:=by
  simp only [List.mem_cons,List.not_mem_nil,or_false] at hn
  omega
 refine Dr.bind (P:=λx:Int × List Str × Int × Int × List Stmt_=>(p+1≤x.1∧x.1≤p+1+K*n)∧GIn ⟨g.fns,x.2.1,x.2.2.1,x.2.2.2.1⟩ x.1∧g.left - 3*(x.1 - p)+3≤x.2.2.2.1∧(cntL x.2.2.2.2:Int)≤C*n∧(x.2.2.2.2.length:Int)≤2*n) ?_ λx hx=>?_
 ·refine Dr.bind (P:=λx:Int × List Str × Int × Int × List Stmt_=>(p+1≤x.1∧x.1≤p+1+K*n)∧GIn ⟨g.fns,x.2.1,x.2.2.1,x.2.2.2.1⟩ x.1∧g.left - 3*(x.1 - p)+3≤x.2.2.2.1∧(cntL x.2.2.2.2:Int)≤C*n∧(x.2.2.2.2.length:Int)≤2*n) ?_ λx hx=>Dr.some hx
  refine Dr.loop (I:=λx:Int × List Str × Int × Int × List Stmt_ × Int=>((0≤x.2.2.2.2.2∧x.2.2.2.2.2≤n)∧p+1≤x.1∧x.1≤p+1+K*(n - x.2.2.2.2.2))∧GIn ⟨g.fns,x.2.1,x.2.2.1,x.2.2.2.1⟩ x.1∧g.left - 3*(x.1 - p)+3≤x.2.2.2.1∧(cntL x.2.2.2.2.1:Int)≤C*(n - x.2.2.2.2.2)∧(x.2.2.2.2.1.length:Int)≤2*(n - x.2.2.2.2.2)) (λx=>x.2.2.2.2.2.toNat) ?_ ?_
  ·refine ⟨⟨⟨by dsimp only; omega, by dsimp only; omega⟩, by dsimp only; omega, ?_⟩, ?_, ?_, ?_, ?_⟩
   ·dsimp only;rw [Int.sub_self,Int.mul_zero];omega
   ·exact hg.mono (by dsimp only;omega)
   ·dsimp only;omega
   ·dsimp only;rw [cntL_nil,Int.sub_self,Int.mul_zero];omega
   ·dsimp only;simp
  rintro ⟨q,vars,nx,lf,out,i⟩ ⟨⟨⟨i0,i1⟩,q0,q1⟩,gi,li,ci,li2⟩
  dsimp only at i0 i1 q0 q1 gi li ci li2 ⊢
  have hmul:K*(n - i)≤100000:=by
   have h1:K*(n - i)≤K*4:=Int.mul_le_mul_of_nonneg_left (by omega) (by omega)
   omega
  refine Dr.bind (P:=λs:Bool=>s=true→0<i) ?_ λs hsb=>?_
  ·refine Dr.ite (λh=>Dr.some λ_=>of_decide_eq_true h) λ_=>Dr.some λh=>by cases h
  refine Dr.ite (λhc=>?_) λ_=>?_
  ·have hi:=hsb hc
   refine DrG.bind (hs b _ q hb (by omega) (by omega) gi) λl g' q' k1 k2 kg kf kl kc=>?_
   have hC4:(C:Int)*(n - i)≤400:=by
    have h1:(C:Int)*(n - i)≤(C:Int)*4:=Int.mul_le_mul_of_nonneg_left (by omega) (by omega)
    omega
   refine ap (by have:=kc.2;dsimp only;omega) (Dr.some (And.intro (λt ht=>?_) λt ht=>by cases ht))
   simp only [Sum.inl.injEq] at ht
   subst ht
   have ew:w64 (i - 1)=i - 1:=w64_id (by omega) (by omega)
   have eK:K*(n - (i - 1))=K*(n - i)+K:=by rw [show n - (i - 1)=(n - i)+1 by omega,Int.mul_add,Int.mul_one]
   have eC:(C:Int)*(n - (i - 1))=C*(n - i)+C:=by rw [show n - (i - 1)=(n - i)+1 by omega,Int.mul_add,Int.mul_one]
   dsimp only at kl kc ⊢
   rw [ew,eK,eC]
   refine ⟨⟨⟨⟨by omega,by omega⟩,by omega,by omega⟩,?_,by omega,?_,?_⟩,by omega⟩
   ·have : g' = ⟨g.fns, g'.vars, g'.next_, g'.left⟩ := by cases g'; simp at kf; subst kf; rfl
    rw [this] at kg
    exact kg
   ·rw [cntL_app];have:=kc.1;omega
   ·have:=kc.2;simp;omega
  ·refine Dr.some (And.intro (fun t ht => by cases ht) fun t ht => ?_)
   simp only [Sum.inr.injEq] at ht
   subst ht
   dsimp only
   have hK2:K*(n - i)≤K*n:=Int.mul_le_mul_of_nonneg_left (by omega) (by omega)
   have hC2:(C:Int)*(n - i)≤C*n:=Int.mul_le_mul_of_nonneg_left (by omega) (by omega)
   exact ⟨⟨q0,by omega⟩,gi,li,by omega,by omega⟩
 obtain ⟨⟨x1,x2⟩,x3,x4,x5,x6⟩:=hx
 have hK4:K*n≤4*K:=by
  have h1:K*n≤K*4:=Int.mul_le_mul_of_nonneg_left (by omega) (by omega)
  omega
 have hC4:(C:Int)*n≤4*C:=by
  have h1:(C:Int)*n≤(C:Int)*4:=Int.mul_le_mul_of_nonneg_left (by omega) (by omega)
  omega
 obtain ⟨a1,a2,a3,a4,a5⟩:=hg
 obtain ⟨b1,b2,b3,b4,b5⟩:=x3
 exact Dr.some ⟨⟨rfl,x1,by dsimp only;omega⟩,⟨⟨a1,by dsimp only;omega,a3,b4,b5⟩,rfl,by dsimp only;omega⟩,by dsimp only;omega,by dsimp only;omega⟩
theorem loop_of {d:Nat} {K:Int} {C:Nat} (hK:1≤K∧K≤200000) (hC:C≤400) (hB:BlkD d K C) (hd:d≤10) {b:List UInt8} {g:l3Gen} {p:Int} (hb:b.length≤2000) (h0:0≤p) (h1:p≤680000 - 120000*(d:Int)) (hg:GIn g p) :
  Dr (pspec_l3Gen__loop g ⟨b,p⟩ ((d+1:Nat):Int)) (GOut b g p (p+1) (p+3+K) 0 (λl=>cntL l≤C+3∧l.length≤2)):=by
 rw [pspec_l3Gen__loop]
 refine nm hb (by decide) h0 (by omega) λn hn=>?_
 dsimp only
 refine DrG.bind (let_dr hb (by omega) (by omega) (hg.mono (by omega)) _) λs g' q k1 k2 kg kf kl ks=>?_
 dsimp only
 have ew:w64 (((d+1:Nat):Int) - 1)=(d:Int):=by rw [w64_id (by omega) (by omega)];omega
 rw [ew]
 have hgi:GIn ⟨g.fns,g'.vars,g'.next_,g'.left⟩ q:=by
  have:g'=⟨g.fns,g'.vars,g'.next_,g'.left⟩:=by cases g';simp at kf;subst kf;rfl
  rw [this] at kg
  exact kg
 refine DrG.bind (hB b _ q hb (by omega) (by omega) hgi) λl g2 q2 m1 m2 mg mf ml mc=>?_
 dsimp only at ml ⊢
 refine Dr.bind (P:=λz:List Stmt_=>cntL z≤C+3∧z.length≤2) ?_ λz hz=>?_
 ·refine ap (by have := mc.2; simp; omega) (Dr.some ⟨?_, by simp⟩)
  rw [cntL_cons,cntL_cons,cntL_nil,ks.2,cntS_eq]
  dsimp only
  rw [cntL_app,cntL_cons,cntL_nil,cntS_eq]
  dsimp only
  rw [cntL_nil]
  have:=mc.1
  omega
 obtain ⟨b1,b2,b3,b4,b5,b6⟩:=mg
 have ew2:w64 (g2.left - 2)=g2.left - 2:=w64_id (by omega) (by omega)
 rw [ew2]
 have hf2:g2.fns=g.fns:=mf
 refine Dr.some ⟨⟨rfl,by dsimp only;omega,by dsimp only;omega⟩,⟨⟨b1,b2,by rw [← hf2];exact b3,b4,?_,by dsimp only;omega⟩,rfl,by dsimp only;omega⟩,hz⟩
 obtain ⟨_,_,_,_,a5,a6⟩:=hg
 dsimp only
 omega
theorem some_step {d:Nat} {K:Int} {C:Nat} (hK:1≤K∧K≤25000) (hC:C≤100) (hd:d≤3) (hd1:1≤d) (hB:2≤d→BlkD (d - 1) ((K - 145) / 2) ((C - 3) / 2)∧3≤C∧600≤K) (hC1:1≤C) (hK1:300≤K):SomD d K C:=by
 intro b g p hb h0 h1 hg
 have hgo:=hg
 obtain ⟨a1,a2,a3,⟨a4,a5⟩,a6,a7⟩:=hgo
 have ew:w64 (g.left - 1)=g.left - 1:=w64_id (by omega) (by omega)
 rw [pspec_l3Gen__some]
 refine pk hb h0 (by omega) λv _ _=>?_
 dsimp only
 rw [ew]
 have hg1:∀ q,p+1≤q→GIn ⟨g.fns,g.vars,g.next_,g.left - 1⟩ q:=λq hq=>⟨a1,by dsimp only;omega,a3,⟨by dsimp only;omega,by dsimp only;omega⟩,by dsimp only;omega,by dsimp only;omega⟩
 have out1:∀ (q:Int) (l:List Stmt_),p+1≤q→q≤p+K→cntL l≤C∧l.length≤2→Dr (some (l,(⟨g.fns,g.vars,g.next_,g.left - 1⟩:l3Gen),(⟨b,q⟩:l30Rd))) (GOut b g p (p+1) (p+K) 0 (λl=>cntL l≤C∧l.length≤2)):=λq l hq hq2 hl=>Dr.some ⟨⟨rfl,hq,hq2⟩,⟨hg1 q hq,rfl,by dsimp only;omega⟩,hl⟩
 have one:∀ (op:Int) (n:Str) (a:List Expr_),cntL ([⟨op,n,a,[],[]⟩]:List Stmt_)≤C∧([⟨op,n,a,[],[]⟩]:List Stmt_).length≤2:=λop n a=>⟨by rw [cntL_cons,cntL_nil,cntS_eq];dsimp only;rw [cntL_nil];omega,by simp⟩
 have e3:((2+1:Nat):Int)=3:=rfl
 have e2:((1+1:Nat):Int)=2:=rfl
 have ex3:∀ q,p+1≤q→q≤690000→DrA (pspec_l3Gen__expr ⟨g.fns,g.vars,g.next_,g.left - 1⟩ ⟨b,q⟩ 3) b q (q+140) (λ_=>True):=λq hq hq2=>by
  have:=gexpr_dr hb (by omega) (by omega) (hg1 q hq) (d:=2) (by omega)
  rw [e3] at this;exact this
 have ex2:∀ q,p+1≤q→q≤690000→DrA (pspec_l3Gen__expr ⟨g.fns,g.vars,g.next_,g.left - 1⟩ ⟨b,q⟩ 2) b q (q+140) (λ_=>True):=λq hq hq2=>by
  have:=gexpr_dr hb (by omega) (by omega) (hg1 q hq) (d:=1) (by omega)
  rw [e2] at this;exact this
 refine Dr.bind (P:=λs:Bool=>s=true→0<g.vars.length) ?_ λs hs=>?_
 ·refine Dr.ite (fun _ => Dr.some fun h => ?_) fun _ => Dr.some fun h => by cases h
  have:=of_decide_eq_true h
  omega
 refine Dr.ite (λhc=>?_) λ_=>?_
 ·refine ofx hb (hs hc) (by omega) (by omega) fun n _ => ?_
  dsimp only
  exact DrA.bind (ex3 _ (by omega) (by omega)) λe q k1 k2 _=>out1 q _ (by omega) (by omega) (one _ _ _)
 refine Dr.ite (λ_=>?_) λ_=>?_
 ·refine DrA.bind (ex3 _ (by omega) (by omega)) fun e q k1 k2 _ => ?_
  dsimp only
  refine DrG.bind (let_dr hb (by omega) (by omega) (hg1 q (by omega)) e) λs g' q2 m1 m2 mg mf ml ms=>?_
  have hgi:GIn ⟨g.fns,g'.vars,g'.next_,g'.left⟩ q2:=by
   have:g'=⟨g.fns,g'.vars,g'.next_,g'.left⟩:=by cases g';simp at mf;subst mf;rfl
   rw [this] at mg
   exact mg
  dsimp only at ml
  exact Dr.some ⟨⟨rfl,by dsimp only;omega,by dsimp only;omega⟩,⟨hgi,rfl,by dsimp only;omega⟩,by rw [cntL_cons,cntL_nil,ms.2];omega,by simp⟩
 refine Dr.bind (P:=λs:Bool=>s=false→2≤d) ?_ λs hs2=>?_
 ·refine Dr.ite (fun _ => Dr.some fun h => by cases h) fun _ => Dr.some fun h => ?_
  have:=of_decide_eq_false h
  omega
 refine Dr.ite (λ_=>?_) λhf=>?_
 ·exact DrA.bind (ex3 _ (by omega) (by omega)) λe q k1 k2 _=>out1 q _ (by omega) (by omega) (one _ _ _)
 have hd2:=hs2 hf
 obtain ⟨hBl,hC3,hK6⟩:=hB hd2
 obtain ⟨d',rfl⟩:∃ d',d=d'+1:=⟨d - 1,by omega⟩
 rw [show d'+1 - 1=d' by omega] at hBl
 generalize hKb:(K - 145) / 2=Kb at hBl
 generalize hCb:(C - 3) / 2=Cb at hBl
 have hKb2:2*Kb≤K - 145∧1≤Kb:=by omega
 have hCb2:2*Cb≤C - 3:=by omega
 have ewd:w64 (((d'+1:Nat):Int) - 1)=(d':Int):=by rw [w64_id (by omega) (by omega)];omega
 refine Dr.ite (λ_=>?_) λ_=>?_
 ·refine DrA.bind (cell_dr hb (by omega) (by omega) (hg1 _ (by omega))) fun e q k1 k2 _ => ?_
  dsimp only
  exact DrA.bind (ex2 _ (by omega) (by omega)) λe2 q2 m1 m2 _=>out1 q2 _ (by omega) (by omega) (one _ _ _)
 refine Dr.ite (λ_=>?_) λ_=>?_
 ·exact DrA.bind (cell_dr hb (by omega) (by omega) (hg1 _ (by omega))) λe q k1 k2 _=>out1 q _ (by omega) (by omega) (one _ _ _)
 refine Dr.ite (λ_=>?_) λ_=>?_
 ·refine DrA.bind (ex3 _ (by omega) (by omega)) fun e q k1 k2 _ => ?_
  dsimp only
  rw [ewd]
  refine DrG.bind (hBl b _ q hb (by omega) (by omega) (hg1 q (by omega))) λl g2 q2 m1 m2 mg mf ml mc=>?_
  dsimp only at mf ml ⊢
  have hgi:GIn ⟨g.fns,g2.vars,g2.next_,g2.left⟩ q2:=by
   have:g2=⟨g.fns,g2.vars,g2.next_,g2.left⟩:=by cases g2;simp at mf;subst mf;rfl
   rw [this] at mg
   exact mg
  refine pk hb (by omega) (by omega) λv _ _=>?_
  dsimp only
  refine Dr.bind (P:=λs:List Stmt_ × Int × List Str × Int × Int=>(q2+1≤s.2.1∧s.2.1≤p+K)∧GIn ⟨g.fns,s.2.2.1,s.2.2.2.1,s.2.2.2.2⟩ s.2.1∧g.left - 3*(s.2.1 - p)≤s.2.2.2.2∧cntL s.1≤Cb) ?_ λs hs=>?_
  ·refine Dr.ite (λ_=>?_) λ_=>?_
   ·refine DrG.bind (hBl b _ (q2 + 1) hb (by omega) (by omega) (hgi.mono (by omega))) fun l3 g3 q3 n1 n2 ng nf nl nc => ?_
    dsimp only at nf nl ⊢
    have hgi3:GIn ⟨g.fns,g3.vars,g3.next_,g3.left⟩ q3:=by
     have:g3=⟨g.fns,g3.vars,g3.next_,g3.left⟩:=by cases g3;simp at nf;subst nf;rfl
     rw [this] at ng
     exact ng
    exact Dr.some ⟨⟨by dsimp only;omega,by dsimp only;omega⟩,hgi3,by dsimp only;omega,nc.1⟩
   ·exact Dr.some ⟨⟨by dsimp only;omega,by dsimp only;omega⟩,hgi.mono (by dsimp only;omega),by dsimp only;omega,by dsimp only;rw [cntL_nil];omega⟩
  obtain ⟨⟨s1,s2⟩,s3,s4,s5⟩:=hs
  refine Dr.some ⟨⟨rfl,by dsimp only;omega,by dsimp only;omega⟩,⟨s3,rfl,by dsimp only;omega⟩,?_,by simp⟩
  rw [cntL_cons,cntL_nil,cntS_eq]
  dsimp only
  have:=mc.1
  omega
 refine Dr.bind (P:=λs:Int × Bool=>p+1≤s.1∧s.1≤p+2) ?_ λs hs=>?_
 ·refine Dr.ite (λ_=>pk hb (by omega) (by omega) λv _ _=>Dr.some ⟨by dsimp only;omega,by dsimp only;omega⟩) λ_=>Dr.some ⟨by dsimp only;omega,by dsimp only;omega⟩
 refine Dr.ite (λ_=>?_) λ_=>?_
 ·exact DrA.bind (ex2 _ (by omega) (by omega)) λe q k1 k2 _=>out1 q _ (by omega) (by omega) (one _ _ _)
 ·refine DrG.bind (loop_of (by omega) (by omega) hBl (by omega) hb (by omega) (by omega) (hg1 _ hs.1)) fun l g2 q2 m1 m2 mg mf ml mc => ?_
  dsimp only at mf ml ⊢
  have hgi:GIn ⟨g.fns,g2.vars,g2.next_,g2.left⟩ q2:=by
   have:g2=⟨g.fns,g2.vars,g2.next_,g2.left⟩:=by cases g2;simp at mf;subst mf;rfl
   rw [this] at mg
   exact mg
  exact Dr.some ⟨⟨rfl,by dsimp only;omega,by dsimp only;omega⟩,⟨hgi,rfl,by dsimp only;omega⟩,by have:=mc.1;dsimp only;omega,mc.2⟩
theorem som1:SomD 1 300 1:=some_step (by decide) (by decide) (by decide) (by decide) (λh=>by omega) (by decide) (by decide)
theorem blk1:BlkD 1 1201 4:=block_of (by decide) (by decide) (by decide) som1
theorem som2:SomD 2 3000 11:=some_step (by decide) (by decide) (by decide) (by decide) (λ_=>⟨λb g p h1 h2 h3 h4=>(blk1 b g p h1 h2 h3 h4).mono λr hr=>⟨⟨hr.1.1,hr.1.2.1,by have:=hr.1.2.2;omega⟩,hr.2.1,by have:=hr.2.2.1;omega,hr.2.2.2⟩,by decide,by decide⟩) (by decide) (by decide)
theorem blk2:BlkD 2 12001 44:=block_of (by decide) (by decide) (by decide) som2
theorem som3:SomD 3 25000 91:=some_step (by decide) (by decide) (by decide) (by decide) (λ_=>⟨λb g p h1 h2 h3 h4=>(blk2 b g p h1 h2 h3 h4).mono λr hr=>⟨⟨hr.1.1,hr.1.2.1,by have:=hr.1.2.2;omega⟩,hr.2.1,by have:=hr.2.2.1;omega,hr.2.2.2⟩,by decide,by decide⟩) (by decide) (by decide)
theorem blk3:BlkD 3 100001 364:=block_of (by decide) (by decide) (by decide) som3
end Prg
end Go.Wk
namespace Go.Wk
open Go
namespace Prg
set_option maxRecDepth 10000
theorem GIn.of {g g':l3Gen} {p:Int} (h:GIn g' p) (e:g'.fns=g.fns):GIn ⟨g.fns,g'.vars,g'.next_,g'.left⟩ p:=by
 have:g'=⟨g.fns,g'.vars,g'.next_,g'.left⟩:=by cases g';simp at e;subst e;rfl
 rw [this] at h
 exact h
theorem fn_dr {b:List UInt8} (hb:b.length≤2000) {g:l3Gen} {p k:Int} (h0:2≤p) (h1:p≤320000) (hg:GIn g p) (k0:0≤k) (k1:k≤3) (name:Str) :
  Dr (pspec_l3Gen__fn g ⟨b,p⟩ name k) (GOut b g p p (p+100200) 0 (λf=>f.params.length≤3∧cntL f.body≤365)):=by
 unfold pspec_l3Gen__fn
 have hN:∀ s∈([(mkS [97]),(mkS [98]),(mkS [99])]:List Str),nameB s=true:=by
  intro s hs
  simp only [List.mem_cons,List.not_mem_nil,or_false] at hs
  rcases hs with rfl | rfl | rfl<;>rfl
 refine Dr.bind (P:=λx:List Str=>(x.length:Int)=k∧∀ s∈x,nameB s=true) ?_ λx hx=>?_
 ·refine ⟨_, subM_some.2 ⟨⟨by omega, k0, ?_⟩, rfl⟩, ?_, ?_⟩
  ·simp;omega
  ·simp;omega
  ·intro s hs
   exact hN s (List.mem_of_mem_take (List.mem_of_mem_drop hs))
 obtain ⟨x1,x2⟩:=hx
 refine ap (by simp;omega) ?_
 have ew:w64 (k - 1)=k - 1:=w64_id (by omega) (by omega)
 rw [ew]
 have hgo:=hg
 obtain ⟨a1,a2,a3,⟨a4,a5⟩,a6,a7⟩:=hgo
 refine DrG.bind (blk3 b _ p hb (by omega) (by omega) ⟨x2,by dsimp only;omega,a3,⟨by dsimp only;omega,by dsimp only;omega⟩,by dsimp only;omega,by dsimp only;omega⟩) λl g2 q m1 m2 mg mf ml mc=>?_
 dsimp only at mf ml ⊢
 have hgi:=GIn.of mg (g:=g) mf
 refine Dr.bind (P:=λs:Int × Bool=>q≤s.1∧s.1≤q+1) ?_ λs hs=>?_
 ·refine Dr.ite (λ_=>pk hb (by omega) (by omega) λv _ _=>Dr.some ⟨by dsimp only;omega,by dsimp only;omega⟩) λ_=>Dr.some ⟨by dsimp only;omega,by dsimp only;omega⟩
 have hgo2:=hgi
 obtain ⟨b1,b2,b3,⟨b4,b5⟩,b6,b7⟩:=hgo2
 dsimp only at b1 b2 b3 b4 b5 b6 b7
 have ew2:w64 (g2.left - 1)=g2.left - 1:=w64_id (by omega) (by omega)
 refine Dr.bind (P:=λs:List Stmt_ × Int × Int=>cntL s.1≤365∧q≤s.2.1∧s.2.1≤q+142∧g2.left - 1≤s.2.2∧s.2.2≤g2.left) ?_ λz hz=>?_
 ·refine Dr.ite (fun _ => ?_) fun _ => Dr.some ⟨by have := mc.1; dsimp only; omega, hs.1, by dsimp only; omega, by dsimp only; omega, by dsimp only; omega⟩
  rw [ew2]
  refine DrA.bind (by
   have:=gexpr_dr (g:=⟨g.fns,g2.vars,g2.next_,g2.left - 1⟩) hb (p:=s.1) (by omega) (by omega) ⟨b1,by dsimp only;omega,b3,⟨by dsimp only;omega,by dsimp only;omega⟩,by dsimp only;omega,by dsimp only;omega⟩ (d:=1) (by omega)
   exact this) λe q2 n1 n2 _=>?_
  dsimp only
  have hml:=mc.2
  refine ap (by simp;omega) (Dr.some ⟨?_,by dsimp only;omega,by dsimp only;omega,by dsimp only;omega,by dsimp only;omega⟩)
  dsimp only
  rw [cntL_app,cntL_cons,cntL_nil,cntS_eq]
  dsimp only
  rw [cntL_nil]
  have:=mc.1
  omega
 obtain ⟨z1,z2,z3,z4,z5⟩:=hz
 refine Dr.some ⟨⟨rfl,by dsimp only;omega,by dsimp only;omega⟩,⟨⟨b1,by dsimp only;omega,b3,⟨by dsimp only;omega,by dsimp only;omega⟩,by dsimp only;omega,by dsimp only;omega⟩,rfl,?_⟩,?_,z1⟩
 ·dsimp only;omega
 ·dsimp only
  rw [List.nil_append]
  omega
theorem cntF_le:∀ {l:List Fn_} {n:Nat},(∀ f∈l,cntL f.body≤n)→cntF l≤n*l.length
 | [],n,_=>by rw [cntF];omega
 | f::l,n,h=>by
  have:=cntF_le (l:=l) (n:=n) λg hg=>h g (List.mem_cons_of_mem _ hg)
  have h2:=h f List.mem_cons_self
  rw [cntF,List.length_cons,Nat.mul_succ]
  omega
theorem dflt:progB (⟨([(⟨(mkS [109]),[],([(⟨3,(mkS []),([(⟨1,1,(mkS []),[]⟩:Expr_)]:List Expr_),[],[]⟩:Stmt_)]:List Stmt_)⟩:Fn_)]:List Fn_)⟩:Program_)=true∧cntF ([(⟨(mkS [109]),[],([(⟨3,(mkS []),([(⟨1,1,(mkS []),[]⟩:Expr_)]:List Expr_),[],[]⟩:Stmt_)]:List Stmt_)⟩:Fn_)]:List Fn_)≤40:=by
 constructor
 ·rfl
 ·decide +kernel
theorem prog_dr {b:List UInt8} (hb:b.length≤2000):DrA (spec_l3Prog ⟨b,0⟩) b 0 310000 (λp=>progB p=true∧cntF p.fns≤40):=by
 unfold spec_l3Prog
 refine nm hb (by decide) (by omega) (by omega) λlf hlf=>?_
 refine nm hb (by decide) (by dsimp only;omega) (by dsimp only;omega) λn hn=>?_
 have hlf2:8≤lf∧lf≤26:=by
  simp only [List.mem_cons,List.not_mem_nil,or_false] at hlf
  omega
 have hn2:0≤n∧n≤2:=by
  simp only [List.mem_cons,List.not_mem_nil,or_false] at hn
  omega
 dsimp only
 have hI0:∀ {q:Int},0≤q→GIn ⟨([]:List Fn_),[],0,lf⟩ q:=λ{q} hq=>⟨λs hs=>(by simp at hs),by dsimp only;simp;omega,λf hf=>(by simp at hf),⟨by dsimp only;omega,by dsimp only;omega⟩,by dsimp only;omega,by dsimp only;omega⟩
 refine Dr.bind (P:=λx:Int × List Fn_ × List Str × Int × Int=>(2≤x.1∧x.1≤2+100201*n)∧GIn ⟨x.2.1,x.2.2.1,x.2.2.2.1,x.2.2.2.2⟩ x.1∧((x.2.1.length:Int)≤n∧∀ f∈x.2.1,cntL f.body≤365)) ?_ λx hx=>?_
 ·refine Dr.bind (P:=λx:Int × List Fn_ × List Str × Int × Int=>(2≤x.1∧x.1≤2+100201*n)∧GIn ⟨x.2.1,x.2.2.1,x.2.2.2.1,x.2.2.2.2⟩ x.1∧((x.2.1.length:Int)≤n∧∀ f∈x.2.1,cntL f.body≤365)) ?_ λx hx=>Dr.some hx
  refine Dr.loop (I:=λx:Int × List Fn_ × List Str × Int × Int × Int=>(((0≤x.2.2.2.2.2∧x.2.2.2.2.2≤n)∧(x.2.1.length:Int)+x.2.2.2.2.2=n)∧2≤x.1∧x.1≤2+100201*(n - x.2.2.2.2.2))∧GIn ⟨x.2.1,x.2.2.1,x.2.2.2.1,x.2.2.2.2.1⟩ x.1∧∀ f∈x.2.1,cntL f.body≤365) (λx=>x.2.2.2.2.2.toNat) ?_ ?_
  ·exact ⟨⟨⟨⟨by dsimp only;omega,by dsimp only;omega⟩,by dsimp only;simp⟩,by dsimp only;omega,by dsimp only;omega⟩,hI0 (by dsimp only;omega),λf hf=>by simp at hf⟩
  rintro ⟨q,fns,vars,nx,lf2,i⟩ ⟨⟨⟨⟨i0,i1⟩,i2⟩,q0,q1⟩,gi,fi⟩
  dsimp only at i0 i1 i2 q0 q1 gi fi ⊢
  refine Dr.ite (λhc=>?_) λ_=>?_
  ·have hc:=of_decide_eq_true hc
   have ew:w64 (i - 1)=i - 1:=w64_id (by omega) (by omega)
   refine Dr.bind (P:=λs:Int × List Str × Int × Int × Str × List Str × List Stmt_=>(q+1≤s.1∧s.1≤q+100201)∧GIn ⟨fns,s.2.1,s.2.2.1,s.2.2.2.1⟩ s.1∧(s.2.2.2.2.2.1.length≤3∧cntL s.2.2.2.2.2.2≤365)) ?_ λs hs=>?_
   ·refine gtx (by omega) (by simp; omega) fun nmf _ => ?_
    refine pk hb (by omega) (by omega) λv v0 v1=>?_
    dsimp only
    refine DrG.bind (fn_dr hb (by omega) (by omega) (gi.mono (by omega)) v0 (by have:=v1 (by omega);omega) nmf) λf g' q2 k1 k2 kg kf kl kc=>?_
    try rw [Option.bind_some]
    exact Dr.some ⟨⟨by dsimp only;omega,by dsimp only;omega⟩,kg.of (g:=⟨fns,vars,nx,lf2⟩) kf,kc⟩
   obtain ⟨⟨s1,s2⟩,s3,s4,s5⟩:=hs
   refine Dr.bind (P:=λz:List Fn_=>z=fns++[⟨s.2.2.2.2.1,s.2.2.2.2.2.1,s.2.2.2.2.2.2⟩]) ?_ λz hz=>?_
   ·exact ap (by simp;omega) (Dr.some rfl)
   subst hz
   rw [ew]
   refine Dr.some (And.intro (λt ht=>?_) λt ht=>by cases ht)
   simp only [Sum.inl.injEq] at ht
   subst ht
   dsimp only
   obtain ⟨c1,c2,c3,c4,c5⟩:=s3
   refine ⟨⟨⟨⟨⟨by omega,by omega⟩,by simp;omega⟩,by omega,by omega⟩,⟨c1,c2,λf hf=>?_,c4,c5⟩,λf hf=>?_⟩,by omega⟩
   ·dsimp only at hf c3
    rcases List.mem_append.1 hf with h | h
    ·exact c3 f h
    ·simp at h;subst h;exact s4
   ·rcases List.mem_append.1 hf with h | h
    ·exact fi f h
    ·simp at h;subst h;exact s5
  ·refine Dr.some (And.intro (fun t ht => by cases ht) fun t ht => ?_)
   simp only [Sum.inr.injEq] at ht
   subst ht
   dsimp only
   exact ⟨⟨q0,by omega⟩,gi,by omega,fi⟩
 obtain ⟨⟨x1,x2⟩,x3,x4,x5⟩:=hx
 refine nm hb (by decide) (by omega) (by omega) λk hk=>?_
 have hk2:0≤k∧k≤2:=by
  simp only [List.mem_cons,List.not_mem_nil,or_false] at hk
  omega
 dsimp only
 refine DrG.bind (fn_dr hb (by omega) (by omega) (x3.mono (by omega)) hk2.1 (by omega) _) λf g' q2 k1 k2 kg kf kl kc=>?_
 dsimp only
 refine Dr.bind (P:=λz:List Fn_=>z=x.2.1++[f]) ?_ λz hz=>?_
 ·refine ap (by simp; omega) ?_
  rw [List.nil_append]
  refine ap (by simp;omega) ?_
  try rw [Option.bind_some]
  exact Dr.some rfl
 subst hz
 have hcnt:cntF (x.2.1++[f])≤365*(x.2.1++[f]).length:=cntF_le λg hg=>by
  rcases List.mem_append.1 hg with h | h
  ·exact x5 g h
  ·simp at h;subst h;exact kc.2
 have hlen:(x.2.1++[f]).length≤3:=by simp;omega
 rw [progS_ok,Option.bind_some]
 refine Dr.ite (λ_=>DrF (lo:=0) (hi:=310000) (P:=λp:Program_=>progB p=true∧cntF p.fns≤40) rfl (by dsimp only;omega) (by dsimp only;omega) ⟨dflt.1,dflt.2⟩) λhp=>DrF (lo:=0) (hi:=310000) (P:=λp:Program_=>progB p=true∧cntF p.fns≤40) rfl (by dsimp only;omega) (by dsimp only;omega) ?_
 have hp2:progB ⟨x.2.1++[f]⟩=true:=by
  cases h:progB ⟨x.2.1++[f]⟩ with
  | true=>rfl
  | false=>rw [h] at hp;exact absurd hp (by decide)
 refine ⟨hp2,?_⟩
 have h3:w64 (cntF (x.2.1++[f]):Int)≤40:=by
  unfold progB at hp2
  simp only [Bool.and_eq_true,decide_eq_true_eq] at hp2
  exact hp2.2.2
 rw [w64_id (by omega) (by omega)] at h3
 dsimp only
 omega
end Prg
end Go.Wk
namespace Go.Wk
open Go
namespace Prg
set_option maxRecDepth 10000
def kW (t:Str):Word_:=⟨4,t⟩
def sC:Word_:=⟨3,mkS [59]⟩
def oB:Word_:=⟨3,mkS [123]⟩
def cB:Word_:=⟨3,mkS [125]⟩
def eQ:Word_:=⟨3,mkS [61]⟩
def wHd (op:Int) (n:Str):List Word_:=if op=1 then [kW tLet,⟨1,n⟩,eQ] else if op=2 then [⟨1,n⟩,eQ] else if op=3 then [kW tSay] else if op=4 then [kW tPut] else if op=5 then [kW tIf] else if op=6 then [kW tLoop] else if op=7 then [kW tBack] else [kW tDo]
def wBr (ws:List Word_):List Word_:=oB::(ws++[cB])
mutual
def wSt:Stmt_→List Word_
 | ⟨op,n,a,b,e⟩=>wHd op n++(aW (a.map (wE 6))++(if op=5∨op=6 then wBr (wSL b)++(if e.isEmpty then [] else kW tElse::wBr (wSL e)) else [sC]))
def wSL:List Stmt_→List Word_
 | []=>[]
 | s::l=>wSt s++wSL l
end
theorem wSt_eq (s:Stmt_):wSt s=wHd s.op s.name++(aW (s.args.map (wE 6))++(if s.op=5∨s.op=6 then wBr (wSL s.body)++(if s.else_.isEmpty then [] else kW tElse::wBr (wSL s.else_)) else [sC])):=by cases s;rw [wSt]
theorem wSL_nil:wSL []=[]:=by rw [wSL]
theorem wSL_cons (s:Stmt_) (l:List Stmt_):wSL (s::l)=wSt s++wSL l:=by rw [wSL]
theorem wSL_app:∀ (l r:List Stmt_),wSL (l++r)=wSL l++wSL r
 | [],r=>by rw [wSL_nil];rfl
 | s::l,r=>by rw [List.cons_append,wSL_cons,wSL_cons,wSL_app l r,List.append_assoc]
theorem wSL_one (s:Stmt_):wSL [s]=wSt s:=by rw [wSL_cons,wSL_nil,List.append_nil]
def wPa (l:List Str):List Word_:=aW (l.map λs=>[(⟨1,s⟩:Word_)])
def wFn (f:Fn_):List Word_:=kW tFn::⟨1,f.name⟩::pL::(wPa f.params++pR::wBr (wSL f.body))
def wFs:List Fn_→List Word_
 | []=>[]
 | f::l=>wFn f++wFs l
theorem wFs_app:∀ (l r:List Fn_),wFs (l++r)=wFs l++wFs r
 | [],r=>rfl
 | s::l,r=>by rw [List.cons_append,wFs,wFs,wFs_app l r,List.append_assoc]
theorem wHd_ne (op:Int) (n:Str):wHd op n≠[]:=by
 unfold wHd
 repeat' split
 all_goals simp
theorem wHd_len (op:Int) (n:Str):(wHd op n).length≤3:=by
 unfold wHd
 repeat' split
 all_goals simp
theorem wSt_ne (s:Stmt_):wSt s≠[]:=by
 rw [wSt_eq]
 exact λh=>wHd_ne _ _ (List.append_eq_nil_iff.1 h).1
theorem hd_iff {s:Stmt_} (h:hdB s=true):(1≤s.op∧s.op≤8)∧((s.op≠4∧∃ a,s.args=[a]∧validB a=true)∨(s.op=4∧∃ a b,s.args=[a,b]∧validB a=true∧validB b=true))∧((s.op=1∨s.op=2)→nameB s.name=true)∧(¬ (s.op=1∨s.op=2)→s.name=mkS [])∧(s.op=8→∃ a,s.args=[a]∧a.op=13)∧(s.else_=[]∨s.op=5)∧(s.body=[]∨s.op=5∨s.op=6):=by
 unfold hdB at h
 simp only [Bool.and_eq_true,decide_eq_true_iff] at h
 obtain ⟨h1,h2,h3,h4,h5,h6,h7⟩:=h
 have hA:(s.op≠4∧∃ a,s.args=[a]∧validB a=true)∨(s.op=4∧∃ a b,s.args=[a,b]∧validB a=true∧validB b=true):=by
  rw [List.all_eq_true] at h4
  by_cases c:s.op=4
  ·have e : argN s.op = 2 := by unfold argN; rw [if_pos c]
   rw [e] at h2
   match ha:s.args,h2 with
   | [a,b],_=>exact .inr ⟨c,a,b,rfl,h4 a (by rw [ha];simp),h4 b (by rw [ha];simp)⟩
  ·have e : argN s.op = 1 := by unfold argN; rw [if_neg c]
   rw [e] at h2
   match ha:s.args,h2 with
   | [a],_=>exact .inl ⟨c,a,rfl,h4 a (by rw [ha];simp)⟩
 refine ⟨inB_iff.1 h1,hA,λhc=>?_,λhc=>?_,λhc=>?_,h6,h7⟩
 ·rw [if_pos hc] at h3;exact h3
 ·rw [if_neg hc,decide_eq_true_iff] at h3;exact h3
 ·have h5:=h5 hc
  rcases hA with ⟨_,a,ha,_⟩ | ⟨h,_⟩
  ·refine ⟨a,ha,?_⟩
   rw [ha] at h5
   simpa using h5
  ·omega
theorem formS_iff {d:Nat} {s:Stmt_} (h:formS (d+1) s=true):hdB s=true∧(∀ x∈s.body,formS d x=true)∧(∀ x∈s.else_,formS d x=true):=by
 rw [formS] at h
 simp only [Bool.and_eq_true,List.all_eq_true] at h
 exact ⟨h.1,h.2.1,h.2.2⟩
theorem valid_W {e:Expr_} (h:validB e=true):vW (wE 6 e)∧wE 6 e≠[]∧(wE 6 e).length≤177:=by
 obtain ⟨h1,h2⟩:=valid_form h
 have:=wE_len h1
 exact ⟨wE_valid h1,wE_ne h1,by omega⟩
theorem name_W {s:Str} (h:nameB s=true):wordB ⟨1,s⟩=true:=h
theorem wHd_valid {op:Int} {n:Str} (h:op=1∨op=2→nameB n=true):vW (wHd op n):=by
 unfold wHd
 have k:∀ t∈[tLet,tSay,tPut,tIf,tElse,tLoop,tBack,tDo,tFn],wordB (kW t)=true:=by decide +kernel
 split
 ·exact vW_cons (k _ (by simp)) (vW_cons (name_W (h (.inl ‹_›))) (vW_cons rfl vW_nil))
 split
 ·exact vW_cons (name_W (h (.inr ‹_›))) (vW_cons rfl vW_nil)
 repeat' split
 all_goals exact vW_cons (k _ (by simp)) vW_nil
theorem wBr_valid {ws:List Word_} (h:vW ws):vW (wBr ws):=vW_cons rfl (vW_app h (vW_cons rfl vW_nil))
theorem wBr_len (ws:List Word_):(wBr ws).length=ws.length+2:=by simp [wBr]
theorem wSL_valid:∀ (d:Nat) (l:List Stmt_),(∀ s∈l,formS d s=true)→vW (wSL l)∧(wSL l).length≤400*cntL l:=by
 intro d
 induction d with
 | zero =>
  intro l h
  cases l with
  | nil=>rw [wSL_nil];exact ⟨vW_nil,by simp⟩
  | cons s l=>have:=h s (by simp);rw [formS] at this;cases this
 | succ d ih =>
  intro l
  induction l with
  | nil=>intro _;rw [wSL_nil];exact ⟨vW_nil,by simp⟩
  | cons s l ihl =>
   intro h
   obtain ⟨g1,g2⟩:=ihl λx hx=>h x (by simp [hx])
   obtain ⟨h1,h2,h3⟩:=formS_iff (h s (by simp))
   obtain ⟨a1,a2⟩:=ih _ h2
   obtain ⟨b1,b2⟩:=ih _ h3
   obtain ⟨i1,i2,i3,_⟩:=hd_iff h1
   have hA:vW (aW (s.args.map (wE 6)))∧(aW (s.args.map (wE 6))).length≤355:=by
    rcases i2 with ⟨_,a,ha,va⟩ | ⟨_,a,b,ha,va,vb⟩
    ·obtain ⟨w1,_,w2⟩:=valid_W va
     rw [ha]
     simp [aW]
     exact ⟨w1,by omega⟩
    ·obtain ⟨w1,_,w2⟩:=valid_W va
     obtain ⟨x1,_,x2⟩:=valid_W vb
     rw [ha]
     simp [aW]
     exact ⟨vW_app w1 (vW_cons rfl x1),by omega⟩
   have hh:=wHd_len s.op s.name
   rw [wSL_cons,cntL_cons,cntS_eq,wSt_eq]
   constructor
   ·refine vW_app (vW_app (wHd_valid i3) (vW_app hA.1 ?_)) g1
    split
    ·refine vW_app (wBr_valid a1) ?_
     split
     ·exact vW_nil
     ·exact vW_cons rfl (wBr_valid b1)
    ·exact vW_cons rfl vW_nil
   ·have h2':=hA.2
    have:(if s.op=5∨s.op=6 then wBr (wSL s.body)++(if s.else_.isEmpty then [] else kW tElse::wBr (wSL s.else_)) else [sC]).length≤5+(wSL s.body).length+(wSL s.else_).length:=by
     split
     ·rw [List.length_append,wBr_len]
      split
      ·simp;omega
      ·rw [List.length_cons,wBr_len];omega
     ·simp;omega
    simp only [List.length_append]
    omega
theorem catK {X:Type} {s t:Str} {f:Str→Option X} {P:X→Prop} (h:s.b.length+t.b.length≤100000000) (k:∀ u:Str,u.b=s.b++t.b→u.b.length=s.b.length+t.b.length→∃ r,f u=some r∧P r):∃ r,Option.bind (catS s t) f=some r∧P r:=by
 obtain ⟨u,u1,u2⟩:=cat_ex h
 obtain ⟨r,r1,r2⟩:=k u u2 (by rw [u2,List.length_append])
 exact ⟨r,bindt u1 r1,r2⟩
theorem bindK {X Y:Type} {o:Option Y} {y:Y} {f:Y→Option X} {P:X→Prop} (h:o=some y) (k:∃ r,f y=some r∧P r):∃ r,Option.bind o f=some r∧P r:=by
 obtain ⟨r,r1,r2⟩:=k
 exact ⟨r,bindt h r1,r2⟩
theorem text1 {e:Expr_} (h:validB e=true):∃ T,spec_l2Text e 1=some T∧T.b=txt (wE 6 e)∧T.b.length≤900:=by
 obtain ⟨h1,h2⟩:=valid_form h
 obtain ⟨T,t1,t2⟩:=text_ok 6 e 1 h1 (by omega)
 have hlv:=lv_pos h1
 have e1:decide (lvI e.op<1)=false:=decide_eq_false (by omega)
 rw [e1] at t2
 have t2:T.b=txt (wE 6 e):=t2
 have hl:=wE_txt_len h1
 exact ⟨T,t1,t2,by rw [t2];omega⟩
theorem name_len {s:Str} (h:nameB s=true):s.b.length≤4:=by
 unfold nameB at h
 simp only [Bool.and_eq_true,decide_eq_true_iff] at h
 exact h.1.2
def BlkT (l:List Stmt_):Prop:=∃ T,spec_l3Block l=some T∧T.b=txt (wBr (wSL l))
theorem blk_txt_len {ws:List Word_} (h:vW ws):(txt (wBr ws)).length≤5*ws.length+10:=by
 have:=txt_len _ (wBr_valid h)
 rw [wBr_len] at this
 omega
theorem c_b {l:List UInt8} (h:l.length≤140737488355328):(mkS l h).b.length=l.length:=rfl
theorem line_ok {s:Stmt_} (h:hdB s=true) (hb:BlkT s.body) (he:BlkT s.else_) (lb:(txt (wBr (wSL s.body))).length≤30000000) (le:(txt (wBr (wSL s.else_))).length≤30000000):∃ T,spec_l3Line s=some T∧T.b=txt (wSt s):=by
  obtain ⟨i1,i2,i3,i4,i5,i6,i7⟩:=hd_iff h
  have hop:s.op=1∨s.op=2∨s.op=3∨s.op=4∨s.op=5∨s.op=6∨s.op=7∨s.op=8:=by omega
  rw [wSt_eq]
  obtain ⟨op,nm,args,body,els⟩:=s
  dsimp only at *
  rw [spec_l3Line]
  dsimp only
  rcases i2 with ⟨n4,a,rfl,va⟩ | ⟨h4,a,b,rfl,va,vb⟩
  · obtain ⟨T,t1,t2,t3⟩:=text1 va
    obtain ⟨w1,w2,w3⟩:=valid_W va
    have hg:getI [a] 0=some a:=rfl
    have hA:aW ([a].map (wE 6))=wE 6 a:=by simp [aW]
    rw [hA]
    refine bindK hg (bindK t1 ?_)
    rcases hop with rfl | rfl | rfl | rfl | rfl | rfl | rfl | rfl
    · have hn:=name_len (i3 (.inl rfl))
      rw [if_pos (by exact rfl)]
      refine catK (by rw [c_b];simp;omega) λu1 h1 l1=>?_
      rw [c_b] at l1
      simp only [List.length_cons,List.length_nil] at l1
      refine catK (by rw [c_b];simp;omega) λu2 h2 l2=>?_
      rw [c_b] at l2
      simp only [List.length_cons,List.length_nil] at l2
      refine catK (by omega) λu3 h3 l3=>?_
      refine catK (by rw [c_b];simp;omega) λu4 h4 l4=>⟨u4,rfl,?_⟩
      rw [h4,h3,h2,h1,t2]
      show _=txt (kW tLet::⟨1,nm⟩::eQ::(wE 6 a++[sC]))
      rw [txt_cons (by simp),txt_cons (by simp),txt_cons (by simp),txt_app w2 (by simp),txt_one]
      simp [mkS,kW,tLet,eQ,sC]
    · have hn:=name_len (i3 (.inr rfl))
      rw [if_neg (by exact Bool.false_ne_true),if_pos (by exact rfl)]
      refine catK (by rw [c_b];simp;omega) λu2 h2 l2=>?_
      rw [c_b] at l2
      simp only [List.length_cons,List.length_nil] at l2
      refine catK (by omega) λu3 h3 l3=>?_
      refine catK (by rw [c_b];simp;omega) λu4 h4 l4=>⟨u4,rfl,?_⟩
      rw [h4,h3,h2,t2]
      show _=txt (⟨1,nm⟩::eQ::(wE 6 a++[sC]))
      rw [txt_cons (by simp),txt_cons (by simp),txt_app w2 (by simp),txt_one]
      simp [mkS,eQ,sC]
    · rw [if_neg (by exact Bool.false_ne_true), if_neg (by exact Bool.false_ne_true), if_pos (by exact rfl)]
      refine catK (by rw [c_b];simp;omega) λu3 h3 l3=>?_
      rw [c_b] at l3
      simp only [List.length_cons,List.length_nil] at l3
      refine catK (by rw [c_b];simp;omega) λu4 h4 l4=>⟨u4,rfl,?_⟩
      rw [h4,h3,t2]
      show _=txt (kW tSay::(wE 6 a++[sC]))
      rw [txt_cons (by simp),txt_app w2 (by simp),txt_one]
      simp [mkS,kW,tSay,sC]
    · exact absurd rfl n4
    · rw [if_neg (by exact Bool.false_ne_true), if_neg (by exact Bool.false_ne_true), if_neg (by exact Bool.false_ne_true), if_neg (by exact Bool.false_ne_true), if_neg (by exact Bool.false_ne_true), if_neg (by exact Bool.false_ne_true), if_neg (by exact Bool.false_ne_true)]
      obtain ⟨B,b1,b2⟩:=hb
      obtain ⟨E,e1,e2⟩:=he
      refine catK (by rw [c_b];simp;omega) λu3 h3 l3=>?_
      rw [c_b] at l3
      simp only [List.length_cons,List.length_nil] at l3
      refine catK (by rw [c_b];simp;omega) λu4 h4 l4=>?_
      rw [c_b] at l4
      simp only [List.length_cons,List.length_nil] at l4
      refine bindK b1 (catK (by rw [b2];omega) λu5 h5 l5=>?_)
      rw [b2] at l5
      have k5:u5.b=txt (kW tIf::(wE 6 a++wBr (wSL body))):=by
        rw [h5,h4,h3,t2,b2,txt_cons (by simp [wBr]),txt_app w2 (by simp [wBr])]
        simp [mkS,kW,tIf]
      cases els with
      | nil =>
        refine ⟨u5,rfl,?_⟩
        rw [k5]
        show _=txt (kW tIf::(wE 6 a++(wBr (wSL body)++[])))
        rw [List.append_nil]
      | cons x xs =>
        have hd:decide (0<((x::xs).length:Int))=true:=by simp
        rw [hd,if_pos rfl]
        have:∃ r,(Option.bind (catS u5 (mkS [32,101,108,115,101,32])) λx1_1=>Option.bind (spec_l3Block (x::xs)) λr1_1=>Option.bind (catS x1_1 r1_1) λx1_2=>some x1_2)=some r∧r.b=txt ((kW tIf::(wE 6 a++wBr (wSL body)))++kW tElse::wBr (wSL (x::xs))):=by
          refine catK (by rw [c_b];simp;omega) λu6 h6 l6=>?_
          rw [c_b] at l6
          simp only [List.length_cons,List.length_nil] at l6
          refine bindK e1 (catK (by rw [e2];omega) λu7 h7 l7=>⟨u7,rfl,?_⟩)
          rw [h7,h6,k5,e2,txt_app (by simp) (by simp),txt_cons (w:=kW tElse) (by simp [wBr])]
          simp [mkS,kW,tElse]
        obtain ⟨r,r1,r2⟩:=this
        refine ⟨r,bindt r1 rfl,?_⟩
        rw [r2]
        show _=txt (kW tIf::(wE 6 a++(wBr (wSL body)++kW tElse::wBr (wSL (x::xs)))))
        rw [List.cons_append,List.append_assoc]
    · rw [if_neg (by exact Bool.false_ne_true), if_neg (by exact Bool.false_ne_true), if_neg (by exact Bool.false_ne_true), if_neg (by exact Bool.false_ne_true), if_pos (by exact rfl)]
      obtain ⟨B,b1,b2⟩:=hb
      have hels : els = [] := by rcases i6 with h | h
                                 · exact h
                                 · exact absurd h (by decide)
      subst hels
      refine catK (by rw [c_b];simp;omega) λu3 h3 l3=>?_
      rw [c_b] at l3
      simp only [List.length_cons,List.length_nil] at l3
      refine catK (by rw [c_b];simp;omega) λu4 h4 l4=>?_
      rw [c_b] at l4
      simp only [List.length_cons,List.length_nil] at l4
      refine bindK b1 (catK (by rw [b2];omega) λu5 h5 l5=>⟨u5,rfl,?_⟩)
      show _=txt (kW tLoop::(wE 6 a++(wBr (wSL body)++[])))
      rw [List.append_nil,h5,h4,h3,t2,b2,txt_cons (by simp [wBr]),txt_app w2 (by simp [wBr])]
      simp [mkS,kW,tLoop]
    · rw [if_neg (by exact Bool.false_ne_true), if_neg (by exact Bool.false_ne_true), if_neg (by exact Bool.false_ne_true), if_neg (by exact Bool.false_ne_true), if_neg (by exact Bool.false_ne_true), if_pos (by exact rfl)]
      refine catK (by rw [c_b];simp;omega) λu3 h3 l3=>?_
      rw [c_b] at l3
      simp only [List.length_cons,List.length_nil] at l3
      refine catK (by rw [c_b];simp;omega) λu4 h4 l4=>⟨u4,rfl,?_⟩
      rw [h4,h3,t2]
      show _=txt (kW tBack::(wE 6 a++[sC]))
      rw [txt_cons (by simp),txt_app w2 (by simp),txt_one]
      simp [mkS,kW,tBack,sC]
    · rw [if_neg (by exact Bool.false_ne_true), if_neg (by exact Bool.false_ne_true), if_neg (by exact Bool.false_ne_true), if_neg (by exact Bool.false_ne_true), if_neg (by exact Bool.false_ne_true), if_neg (by exact Bool.false_ne_true), if_pos (by exact rfl)]
      refine catK (by rw [c_b];simp;omega) λu3 h3 l3=>?_
      rw [c_b] at l3
      simp only [List.length_cons,List.length_nil] at l3
      refine catK (by rw [c_b];simp;omega) λu4 h4 l4=>⟨u4,rfl,?_⟩
      rw [h4,h3,t2]
      show _=txt (kW tDo::(wE 6 a++[sC]))
      rw [txt_cons (by simp),txt_app w2 (by simp),txt_one]
      simp [mkS,kW,tDo,sC]
  · subst h4
    obtain ⟨T,t1,t2,t3⟩:=text1 va
    obtain ⟨w1,w2,w3⟩:=valid_W va
    obtain ⟨T',t1',t2',t3'⟩:=text1 vb
    obtain ⟨w1',w2',w3'⟩:=valid_W vb
    have hg:getI [a,b] 0=some a:=rfl
    have hg1:getI [a,b] 1=some b:=rfl
    have hA:aW ([a,b].map (wE 6))=wE 6 a++cM::wE 6 b:=by simp [aW]
    rw [hA]
    refine bindK hg (bindK t1 ?_)
    rw [if_neg (by exact Bool.false_ne_true),if_neg (by exact Bool.false_ne_true),if_neg (by exact Bool.false_ne_true),if_pos (by exact rfl)]
    refine catK (by rw [c_b];simp;omega) λu3 h3 l3=>?_
    rw [c_b] at l3
    simp only [List.length_cons,List.length_nil] at l3
    refine catK (by rw [c_b];simp;omega) λu4 h4 l4=>?_
    rw [c_b] at l4
    simp only [List.length_cons,List.length_nil] at l4
    refine bindK hg1 (bindK t1' (catK (by omega) λu5 h5 l5=>?_))
    refine catK (by rw [c_b];simp;omega) λu6 h6 l6=>⟨u6,rfl,?_⟩
    rw [h6,h5,h4,h3,t2,t2']
    show _=txt (kW tPut::(wE 6 a++cM::wE 6 b++[sC]))
    rw [txt_cons (by simp),txt_app (by simp) (by simp),txt_app w2 (by simp),txt_cons w2',txt_one]
    simp [mkS,kW,tPut,sC,cM]
end Prg
end Go.Wk
namespace Go.Wk
open Go
namespace Prg
set_option maxRecDepth 10000
theorem cnt_mem {s:Stmt_}:∀ {l:List Stmt_},s∈l→cntS s≤cntL l
 | x::l,h=>by
  rw [cntL_cons]
  rcases List.mem_cons.1 h with rfl | h
  ·omega
  ·have:=cnt_mem h;omega
theorem wSL_txt {l:List Stmt_} (h:vW (wSL l)∧(wSL l).length≤400*cntL l) (hc:cntL l≤10000):(txt (wBr (wSL l))).length≤30000000:=by
 have:=blk_txt_len h.1
 omega
theorem block_ok:∀ (d:Nat) (l:List Stmt_),(∀ s∈l,formS d s=true)→cntL l≤10000→BlkT l:=by
 intro d
 induction d with
 | zero =>
  intro l h _
  cases l with
  | nil=>exact ⟨⟨[123,32,125],by decide⟩,by rw [spec_l3Block];rfl,by rw [wSL_nil];rfl⟩
  | cons s l=>have:=h s (by simp);rw [formS] at this;cases this
 | succ d ih =>
  intro l h hc
  have hline:∀ x∈l,∃ T,spec_l3Line x=some T∧T.b=txt (wSt x):=λx hx=>by
   obtain ⟨h1,h2,h3⟩:=formS_iff (h x hx)
   have hcx:=cnt_mem hx
   rw [cntS_eq] at hcx
   exact line_ok h1 (ih _ h2 (by omega)) (ih _ h3 (by omega)) (wSL_txt (wSL_valid d _ h2) (by omega)) (wSL_txt (wSL_valid d _ h3) (by omega))
  have hlen:∀ l' r,l=l'++r→(txt (oB::wSL l')).length≤30000000:=λl' r he=>by
   have h1:=wSL_valid (d+1) l' λs hs=>h s (by rw [he];simp [hs])
   have h2:=txt_len _ (vW_cons (w:=oB) rfl h1.1)
   rw [he,cntL_app] at hc
   simp only [List.length_cons] at h2
   omega
  unfold BlkT
  rw [spec_l3Block]
  rcases forN_list (xs := l) (body := (fun (i1_1 : Int) (xs1_1 : Str) => (Option.bind (catS xs1_1 (mkS [32])) fun x1_1 => Option.bind (getI l i1_1) fun x1_2 => Option.bind (spec_l3Line x1_2) fun r1_1 => Option.bind (catS x1_1 r1_1) fun x1_3 => some (.inl x1_3) : Option ((Str) ⊕ (Empty))))) (s := (mkS [123])) (fun l' s => s.b = txt (oB :: wSL l')) (fun _ => False) (by rw [wSL_nil]; rfl) (fun l' x r s hx hI => .inl (by
   obtain ⟨T,t1,t2⟩:=hline x (by rw [hx];simp)
   have hg:getI l (l'.length:Int)=some x:=by rw [hx,getI_mid]
   have k1:=hlen l' (x::r) hx
   have k2:=hlen (l'++[x]) r (by rw [hx];simp)
   have e:txt (oB::wSL (l'++[x]))=txt (oB::wSL l')++32::txt (wSt x):=by
    rw [wSL_app,wSL_one,← List.cons_append,txt_app (by simp) (wSt_ne x)]
   rw [e,List.length_append,List.length_cons] at k2
   have:∃ z,(λ(i1_1:Int) (xs1_1:Str)=>(Option.bind (catS xs1_1 (mkS [32])) λx1_1=>Option.bind (getI l i1_1) λx1_2=>Option.bind (spec_l3Line x1_2) λr1_1=>Option.bind (catS x1_1 r1_1) λx1_3=>some (.inl x1_3):Option ((Str) ⊕ (Empty)))) (l'.length:Int) s=some (.inl z)∧z.b=txt (oB::wSL (l'++[x])):=by
    obtain ⟨y,y1,y2⟩:=cat_ex (s:=s) (t:=mkS [32]) (by rw [hI,c_b];simp;omega)
    obtain ⟨z,z1,z2⟩:=cat_ex (s:=y) (t:=T) (by rw [y2,List.length_append,hI,t2,c_b];simp;omega)
    refine ⟨z,?_,?_⟩
    ·simp only [y1,hg,t1,z1,Option.bind_some]
    ·rw [e,z2,y2,hI,t2]
     simp [mkS]
   exact this)) with ⟨s,h1,h2⟩ | ⟨_,_,h2⟩
  ·obtain ⟨z, z1, z2⟩ := cat_ex (s := s) (t := mkS [32, 125]) (by rw [h2, c_b]; have := hlen l [] (by simp); simp; omega)
   refine ⟨z,?_,?_⟩
   ·rw [h1]
    simp only [Option.bind_some,Sum.elim_inl,z1]
   ·rw [z2,h2]
    show _=txt (oB::wSL l++[cB])
    rw [txt_app (by simp) (by simp),txt_one]
    simp [mkS,cB]
  ·exact h2.elim
theorem fnB_iff {f:Fn_} (h:fnB f=true):nameB f.name=true∧f.params.length≤3∧(∀ s∈f.params,nameB s=true)∧(∀ s∈f.body,formS 4 s=true):=by
 unfold fnB at h
 simp only [Bool.and_eq_true,decide_eq_true_iff,List.all_eq_true] at h
 exact ⟨h.1,h.2.1,h.2.2.1,h.2.2.2⟩
theorem wPa_snoc (l:List Str) (x:Str):wPa (l++[x])=if l=[] then [⟨1,x⟩] else wPa l++[cM,⟨1,x⟩]:=by
 unfold wPa
 rw [List.map_append,List.map_cons,List.map_nil,aW_snoc]
 by_cases h:l=[]
 ·subst h;rfl
 ·rw [if_neg (by simpa using h),if_neg h]
theorem wPa_ok:∀ {l:List Str},(∀ s∈l,nameB s=true)→vW (wPa l)∧(wPa l).length≤2*l.length:=by
 intro l h
 unfold wPa
 refine ⟨aW_valid λx hx=>?_,?_⟩
 ·obtain ⟨s,hs,rfl⟩:=List.mem_map.1 hx
  exact vW_cons (name_W (h s hs)) vW_nil
 ·have:=aW_len (l.map λs=>[(⟨1,s⟩:Word_)])
  have e:((l.map λs=>[(⟨1,s⟩:Word_)]).map List.length).sum=l.length:=by
   clear this h
   induction l with
   | nil=>rfl
   | cons a l ih=>simp only [List.map_cons,List.sum_cons,ih,List.length_cons,List.length_nil];omega
  rw [e] at this
  simp only [List.length_map] at this
  omega
theorem wFn_ok {f:Fn_} (h:fnB f=true):vW (wFn f)∧(wFn f).length≤400*cntL f.body+12∧wFn f≠[]:=by
 obtain ⟨h1,h2,h3,h4⟩:=fnB_iff h
 obtain ⟨a1,a2⟩:=wPa_ok h3
 obtain ⟨b1,b2⟩:=wSL_valid 4 _ h4
 unfold wFn
 refine ⟨vW_cons (w:=kW tFn) (by decide +kernel) (vW_cons (name_W h1) (vW_cons rfl (vW_app a1 (vW_cons rfl (wBr_valid b1))))),?_,by simp⟩
 simp only [List.length_cons,List.length_append,wBr_len]
 omega
theorem wFs_ok:∀ {l:List Fn_},(∀ f∈l,fnB f=true)→vW (wFs l)∧(wFs l).length≤400*cntF l+12*l.length
 | [],_=>⟨vW_nil,by simp [wFs]⟩
 | f::l,h=>by
  obtain ⟨h1,h2⟩:=wFs_ok (l:=l) λg hg=>h g (by simp [hg])
  obtain ⟨h3,h4,_⟩:=wFn_ok (h f (by simp))
  rw [wFs,cntF]
  refine ⟨vW_app h3 h1,?_⟩
  simp only [List.length_append,List.length_cons]
  omega
theorem l3Text_ok {p:Program_} (hp:progB p=true) (hc:cntF p.fns≤1000):∃ T,spec_l3Text p=some T∧T.b=txt (wFs p.fns):=by
 have hpp:((p.fns.length:Int)≤4)∧∀ f∈p.fns,fnB f=true:=by
  unfold progB at hp
  simp only [Bool.and_eq_true,List.all_eq_true] at hp
  exact ⟨(inB_iff.1 hp.1).2,hp.2.1⟩
 obtain ⟨hl4,hf⟩:=hpp
 have hlen:∀ l' r,p.fns=l'++r→(txt (wFs l')).length≤5000000:=λl' r he=>by
  have h1:=wFs_ok (l:=l') λg hg=>hf g (by rw [he];simp [hg])
  have h2:=txt_len _ h1.1
  rw [he,cntF_app] at hc
  rw [he,List.length_append] at hl4
  omega
 unfold spec_l3Text
 rcases forN_list (xs := p.fns) (body := (fun (i1_1 : Int) (xs1_1 : Str) => (Option.bind (getI p.fns i1_1) fun x1_1 => Option.bind (if decide (0 < i1_1) then Option.bind (catS xs1_1 (mkS [32])) fun x2_1 => some x2_1 else some xs1_1 : Option (Str)) fun s1_1 => Option.bind (catS s1_1 (mkS [102, 110, 32])) fun x1_2 => Option.bind (catS x1_2 x1_1.name) fun x1_3 => Option.bind (catS x1_3 (mkS [32, 40])) fun x1_4 => Option.bind (forN (S := Str) (X := Empty) (fun i2_1 xs2_1 => Option.bind (if decide (0 < i2_1) then Option.bind (catS xs2_1 (mkS [32, 44])) fun x3_1 => some x3_1 else some xs2_1 : Option (Str)) fun s2_1 => Option.bind (catS s2_1 (mkS [32])) fun x2_2 => Option.bind (getI x1_1.params i2_1) fun x2_3 => Option.bind (catS x2_2 x2_3) fun x2_4 => some (.inl x2_4)) (((x1_1.params.length : Int) : Int) - 0).toNat 0 x1_4) (Sum.elim (fun xs1_2 => Option.bind (catS xs1_2 (mkS [32, 41, 32])) fun x1_5 => Option.bind (spec_l3Block x1_1.body) fun r1_2 => Option.bind (catS x1_5 r1_2) fun x1_6 => some (.inl x1_6)) (fun (e0 : Empty) => nomatch e0)) : Option ((Str) ⊕ (Empty))))) (s := (mkS [])) (fun l' s => s.b = txt (wFs l')) (fun _ => False) rfl (fun l' f r s hx hI => .inl (by
  have hff:=hf f (by rw [hx];simp)
  obtain ⟨f1,f2,f3,f4⟩:=fnB_iff hff
  obtain ⟨v1,v2,v3⟩:=wFn_ok hff
  have hg:getI p.fns (l'.length:Int)=some f:=by rw [hx,getI_mid]
  have k1:=hlen l' (f::r) hx
  have hcf:cntL f.body≤1000:=by
   rw [hx,cntF_app,cntF] at hc
   omega
  have hbt:=wSL_txt (wSL_valid 4 _ f4) (by omega)
  have hbl:=blk_txt_len (wSL_valid 4 _ f4).1
  have hbl2:=(wSL_valid 4 _ f4).2
  obtain ⟨B,b1,b2⟩:=block_ok 4 f.body f4 (by omega)
  have hn:=name_len f1
  suffices hz:∃ z,(λ(i1_1:Int) (xs1_1:Str)=>(Option.bind (getI p.fns i1_1) λx1_1=>Option.bind (if decide (0<i1_1) then Option.bind (catS xs1_1 (mkS [32])) λx2_1=>some x2_1 else some xs1_1:Option (Str)) λs1_1=>Option.bind (catS s1_1 (mkS [102,110,32])) λx1_2=>Option.bind (catS x1_2 x1_1.name) λx1_3=>Option.bind (catS x1_3 (mkS [32,40])) λx1_4=>Option.bind (forN (S:=Str) (X:=Empty) (λi2_1 xs2_1=>Option.bind (if decide (0<i2_1) then Option.bind (catS xs2_1 (mkS [32,44])) λx3_1=>some x3_1 else some xs2_1:Option (Str)) λs2_1=>Option.bind (catS s2_1 (mkS [32])) λx2_2=>Option.bind (getI x1_1.params i2_1) λx2_3=>Option.bind (catS x2_2 x2_3) λx2_4=>some (.inl x2_4)) (((x1_1.params.length:Int):Int) - 0).toNat 0 x1_4) (Sum.elim (λxs1_2=>Option.bind (catS xs1_2 (mkS [32,41,32])) λx1_5=>Option.bind (spec_l3Block x1_1.body) λr1_2=>Option.bind (catS x1_5 r1_2) λx1_6=>some (.inl x1_6)) (λ(e0:Empty)=>nomatch e0)):Option ((Str) ⊕ (Empty)))) (l'.length:Int) s=some z∧∃ u:Str,z=.inl u∧u.b=txt (wFs (l'++[f])) by
   obtain ⟨z,z1,u,rfl,z2⟩:=hz
   exact ⟨u,z1,z2⟩
  dsimp only
  refine bindK hg ?_
  have hS:∃ s1,(if decide (0<(l'.length:Int)) then Option.bind (catS s (mkS [32])) λx2_1=>some x2_1 else some s:Option Str)=some s1∧(s1.b.length≤5000001∧∀ ws,ws≠[]→s1.b++txt ws=txt (wFs l'++ws)):=by
   by_cases hl0:l'=[]
   ·subst hl0
    refine ⟨s,rfl,by rw [hI];omega,λws _=>?_⟩
    rw [hI];rfl
   ·have hd : decide (0 < (l'.length : Int)) = true := by have := List.length_pos_iff.2 hl0; simp; omega
    rw [hd,if_pos rfl]
    obtain ⟨y,y1,y2⟩:=cat_ex (s:=s) (t:=mkS [32]) (by rw [hI,c_b];simp;omega)
    refine ⟨y,bindt y1 rfl,by rw [y2,List.length_append,hI,c_b];simp;omega,λws hws=>?_⟩
    have hne:wFs l'≠[]:=by
     cases l' with
     | nil=>exact absurd rfl hl0
     | cons a l'=>rw [wFs];intro h;exact absurd (List.append_eq_nil_iff.1 h).1 (by simp [wFn])
    rw [y2,hI,txt_app hne hws]
    simp [mkS]
  obtain ⟨s1,s2,s3,s4⟩:=hS
  refine bindK s2 ?_
  refine catK (by rw [c_b];simp;omega) λu2 h2 l2=>?_
  rw [c_b] at l2
  simp only [List.length_cons,List.length_nil] at l2
  refine catK (by omega) λu3 h3 l3=>?_
  refine catK (by rw [c_b];simp;omega) λu4 h4 l4=>?_
  rw [c_b] at l4
  simp only [List.length_cons,List.length_nil] at l4
  have q4:u4.b=txt (wFs l'++[kW tFn,⟨1,f.name⟩,pL]):=by
   rw [← s4 _ (by simp),h4,h3,h2,txt_cons (by simp),txt_cons (by simp),txt_one]
   simp [mkS,kW,tFn,pL]
  rcases forN_list (xs := f.params) (body := (fun (i2_1 : Int) (xs2_1 : Str) => (Option.bind (if decide (0 < i2_1) then Option.bind (catS xs2_1 (mkS [32, 44])) fun x3_1 => some x3_1 else some xs2_1 : Option (Str)) fun s2_1 => Option.bind (catS s2_1 (mkS [32])) fun x2_2 => Option.bind (getI f.params i2_1) fun x2_3 => Option.bind (catS x2_2 x2_3) fun x2_4 => some (.inl x2_4) : Option ((Str) ⊕ (Empty))))) (s := u4) (fun l s => s.b = txt (wFs l' ++ [kW tFn, ⟨1, f.name⟩, pL] ++ wPa l) ∧ s.b.length ≤ 5000100 + 10 * l.length) (fun _ => False) ⟨by rw [q4]; simp [wPa, aW], by omega⟩ (fun l x r' s hx' hJ => .inl (by
   obtain ⟨hJ,hJ2⟩:=hJ
   have hnx:=name_len (f3 x (by rw [hx'];simp))
   have hl3:l.length+r'.length+1≤3:=by
    have:=congrArg List.length hx'
    simp at this
    omega
   have hg':getI f.params (l.length:Int)=some x:=by rw [hx',getI_mid]
   suffices hz:∃ z,(λ(i2_1:Int) (xs2_1:Str)=>(Option.bind (if decide (0<i2_1) then Option.bind (catS xs2_1 (mkS [32,44])) λx3_1=>some x3_1 else some xs2_1:Option (Str)) λs2_1=>Option.bind (catS s2_1 (mkS [32])) λx2_2=>Option.bind (getI f.params i2_1) λx2_3=>Option.bind (catS x2_2 x2_3) λx2_4=>some (.inl x2_4):Option ((Str) ⊕ (Empty)))) (l.length:Int) s=some z∧∃ u:Str,z=.inl u∧(u.b=txt (wFs l'++[kW tFn,⟨1,f.name⟩,pL]++wPa (l++[x]))∧u.b.length≤5000100+10*(l++[x]).length) by
    obtain ⟨z,z1,u,rfl,z2⟩:=hz
    exact ⟨u,z1,z2⟩
   dsimp only
   rw [wPa_snoc,List.length_append]
   by_cases hl0:l=[]
   ·subst hl0
    rw [if_pos rfl]
    refine bindK (y:=s) rfl ?_
    refine catK (by rw [c_b];simp at hJ2 ⊢;omega) λw1 g1 m1=>?_
    rw [c_b] at m1
    simp only [List.length_cons,List.length_nil] at m1 hJ2
    refine bindK hg' (catK (by omega) λw2 g2 m2=>⟨_,rfl,w2,rfl,?_,by simp only [List.length_cons,List.length_nil];omega⟩)
    rw [g2,g1,hJ,show wPa ([]:List Str)=[] from rfl,List.append_nil,txt_app (a:=wFs l'++[kW tFn,⟨1,f.name⟩,pL]) (by simp) (by simp),txt_one]
    simp [mkS]
   ·have hd : decide (0 < (l.length : Int)) = true := by have := List.length_pos_iff.2 hl0; simp; omega
    rw [if_neg hl0,hd,if_pos rfl]
    obtain ⟨q,q1,q2⟩:=cat_ex (s:=s) (t:=mkS [32,44]) (by rw [c_b];simp;omega)
    have q3:q.b.length=s.b.length+2:=by rw [q2,List.length_append];rfl
    refine bindK (y:=q) (bindt q1 rfl) ?_
    refine catK (by rw [c_b];simp;omega) λw1 g1 m1=>?_
    rw [c_b] at m1
    simp only [List.length_cons,List.length_nil] at m1
    refine bindK hg' (catK (by omega) λw2 g2 m2=>⟨_,rfl,w2,rfl,?_,by simp only [List.length_cons,List.length_nil];omega⟩)
    rw [g2,g1,q2,hJ,← List.append_assoc,txt_app (a:=wFs l'++[kW tFn,⟨1,f.name⟩,pL]++wPa l) (by simp) (by simp),txt_cons (by simp),txt_one]
    simp [mkS,cM])) with ⟨s5,h5,h6,h7⟩ | ⟨_,_,h6⟩
  ·refine bindK (y:=.inl s5) h5 ?_
   rw [Sum.elim_inl]
   refine catK (by rw [c_b];simp;omega) λu5 h8 l5=>?_
   rw [c_b] at l5
   simp only [List.length_cons,List.length_nil] at l5
   refine bindK b1 (catK (by rw [b2];omega) λu6 h9 l6=>⟨_,rfl,u6,rfl,?_⟩)
   rw [h9,h8,h6,b2,wFs_app]
   show _=txt (wFs l'++(kW tFn::⟨1,f.name⟩::pL::(wPa f.params++pR::wBr (wSL f.body))++[]))
   have e:wFs l'++(kW tFn::⟨1,f.name⟩::pL::(wPa f.params++pR::wBr (wSL f.body))++[])=(wFs l'++[kW tFn,⟨1,f.name⟩,pL]++wPa f.params)++pR::wBr (wSL f.body):=by simp
   rw [e,txt_app (a:=wFs l'++[kW tFn,⟨1,f.name⟩,pL]++wPa f.params) (by simp) (by simp),txt_cons (w:=pR) (by simp [wBr])]
   simp [mkS,pR]
  ·exact h6.elim)) with ⟨s,h1,h2⟩ | ⟨_,_,h2⟩
 ·exact ⟨s,bindt h1 rfl,h2⟩
 ·exact h2.elim
end Prg
end Go.Wk
namespace Go.Wk
open Go
namespace Prg
set_option maxRecDepth 10000
def BwD (l:List Stmt_):Prop:=∀ list:List Word_,list.length+(wSL l).length≤79979→impl_blockWords list l=some (list++wBr (wSL l))
end Prg
end Go.Wk
namespace Go.Wk
open Go
namespace Prg
set_option maxRecDepth 10000
theorem simP:∀ (k:Nat) (acc:List Str) (ws:List Word_),ws.length+1≤k→vW ws→acc.length+ws.length≤1000 →
      (∀ (r0:l3Reader) (n:Nat),r0.list.length≤1000→vW r0.list→AtW r0.list n ws→match pP k acc ws with
        | some p=>∃ (m:Nat) (w:Word_),AtW r0.list m (w::p.2)∧w.text=mkS [41]∧loopM (λ(xs2_1:Int × (List Str))=>(Option.bind (if decide (0≤xs2_1.1) then Option.bind (pspec_l3Reader__is (⟨r0.list,xs2_1.1⟩:l3Reader) (mkS [41])) λr3_1=>some (!(r3_1)) else some false:Option (Bool)) λs2_1=>if s2_1 then Option.bind (if decide (0<((xs2_1.2.length:Int))) then Option.bind (pspec_l3Reader__want (⟨r0.list,xs2_1.1⟩:l3Reader) (mkS [44])) λr3_2=>some r3_2.at_ else some xs2_1.1:Option (Int)) λs2_2=>Option.bind (pspec_l3Reader__name (⟨r0.list,s2_2⟩:l3Reader)) λr2_1=>Option.bind (appM xs2_1.2 ([r2_1.1]:List Str)) λys2_1=>some (.inl (r2_1.2.at_,ys2_1)) else some (.inr (xs2_1.1,xs2_1.2)):Option ((Int × (List Str)) ⊕ (Int × (List Str))))) ((n:Int),acc)=some ((m:Int),p.1)
        | none=>∃ acc',loopM (λ(xs2_1:Int × (List Str))=>(Option.bind (if decide (0≤xs2_1.1) then Option.bind (pspec_l3Reader__is (⟨r0.list,xs2_1.1⟩:l3Reader) (mkS [41])) λr3_1=>some (!(r3_1)) else some false:Option (Bool)) λs2_1=>if s2_1 then Option.bind (if decide (0<((xs2_1.2.length:Int))) then Option.bind (pspec_l3Reader__want (⟨r0.list,xs2_1.1⟩:l3Reader) (mkS [44])) λr3_2=>some r3_2.at_ else some xs2_1.1:Option (Int)) λs2_2=>Option.bind (pspec_l3Reader__name (⟨r0.list,s2_2⟩:l3Reader)) λr2_1=>Option.bind (appM xs2_1.2 ([r2_1.1]:List Str)) λys2_1=>some (.inl (r2_1.2.at_,ys2_1)) else some (.inr (xs2_1.1,xs2_1.2)):Option ((Int × (List Str)) ⊕ (Int × (List Str))))) ((n:Int),acc)=some (-1,acc')) ∧
      (match pP k acc ws with
        | some p=>loopM (λ(xs2_1:(List Word_) × Bool × (List Str))=>(Option.bind (if !(xs2_1.2.1) then Option.bind (pimpl_wordReader__take (⟨xs2_1.1,xs2_1.2.1⟩:wordReader) 3 (mkS [41])) λr3_1=>some (r3_1.2.list,r3_1.2.bad,!(r3_1.1)) else some (xs2_1.1,xs2_1.2.1,false):Option ((List Word_) × Bool × Bool)) λs2_1=>if s2_1.2.2 then Option.bind (if decide (0<((xs2_1.2.2.length:Int))) then Option.bind (pimpl_wordReader__want (⟨s2_1.1,s2_1.2.1⟩:wordReader) 3 (mkS [44])) λr3_2=>some (r3_2.list,r3_2.bad) else some (s2_1.1,s2_1.2.1):Option ((List Word_) × Bool)) λs2_2=>Option.bind (pimpl_wordReader__name (⟨s2_2.1,s2_2.2⟩:wordReader)) λr2_1=>Option.bind (appM xs2_1.2.2 ([r2_1.1]:List Str)) λys2_1=>some (.inl (r2_1.2.list,r2_1.2.bad,ys2_1)) else some (.inr (s2_1.1,s2_1.2.1,xs2_1.2.2)):Option (((List Word_) × Bool × (List Str)) ⊕ ((List Word_) × Bool × (List Str))))) (ws,false,acc)=some (p.2,false,p.1)
        | none=>∃ acc' ws',loopM (λ(xs2_1:(List Word_) × Bool × (List Str))=>(Option.bind (if !(xs2_1.2.1) then Option.bind (pimpl_wordReader__take (⟨xs2_1.1,xs2_1.2.1⟩:wordReader) 3 (mkS [41])) λr3_1=>some (r3_1.2.list,r3_1.2.bad,!(r3_1.1)) else some (xs2_1.1,xs2_1.2.1,false):Option ((List Word_) × Bool × Bool)) λs2_1=>if s2_1.2.2 then Option.bind (if decide (0<((xs2_1.2.2.length:Int))) then Option.bind (pimpl_wordReader__want (⟨s2_1.1,s2_1.2.1⟩:wordReader) 3 (mkS [44])) λr3_2=>some (r3_2.list,r3_2.bad) else some (s2_1.1,s2_1.2.1):Option ((List Word_) × Bool)) λs2_2=>Option.bind (pimpl_wordReader__name (⟨s2_2.1,s2_2.2⟩:wordReader)) λr2_1=>Option.bind (appM xs2_1.2.2 ([r2_1.1]:List Str)) λys2_1=>some (.inl (r2_1.2.list,r2_1.2.bad,ys2_1)) else some (.inr (s2_1.1,s2_1.2.1,xs2_1.2.2)):Option (((List Word_) × Bool × (List Str)) ⊕ ((List Word_) × Bool × (List Str))))) (ws,false,acc)=some (ws',true,acc')):=by
  intro k
  induction k with
  | zero=>intro acc ws h;omega
  | succ k ih =>
    intro acc ws hk hv hl
    have hlt:∀ x:Str,acc.length+[x].length≤2147483648:=λx=>by simp;omega
    have e2:decide (0<(acc.length:Int))=!decide (acc=[]):=by cases acc<;>simp
    have htk:=tk_is hv (t:=mkS [41]) rfl (by decide)
    rw [pP]
    refine ⟨λr0 n hll hvl ha=>?_,?_⟩
    · have e0 : decide (0 ≤ (n : Int)) = true := by simp
      by_cases ht:isT ws (mkS [41])=true
      · rw [if_pos ht]
        cases ws with
        | nil=>cases ht
        | cons w r =>
          refine ⟨n,w,ha,by simpa [isT] using ht,loopM_inr ?_⟩
          dsimp only
          rw [if_pos e0,sIs ha,ht];rfl
      · have ht : isT ws (mkS [41]) = false := by simpa using ht
        rw [if_neg (by simp [ht])]
        have hw:SpW r0.list (if acc=[] then some ws else wT (mkS [44]) ws) (Option.bind (if decide (0<(acc.length:Int)) then Option.bind (pspec_l3Reader__want ⟨r0.list,(n:Int)⟩ (mkS [44])) λr=>some r.at_ else some (n:Int)) λa=>some ⟨r0.list,a⟩):=by
          rw [e2]
          by_cases h0:acc=[]
          · rw [if_pos h0,decide_eq_true h0]
            exact ⟨n,ha,rfl⟩
          · rw [if_neg h0,decide_eq_false h0]
            have h1:=sWant hll ha (mkS [44])
            cases hq:wT (mkS [44]) ws with
            | none =>
              rw [hq] at h1
              show _=_
              simp only [Bool.not_false,if_true]
              rw [show pspec_l3Reader__want ⟨r0.list,(n:Int)⟩ (mkS [44])=some ⟨r0.list,-1⟩ from h1];rfl
            | some q =>
              rw [hq] at h1
              obtain ⟨m,a1,h1⟩:=h1
              refine ⟨m,a1,?_⟩
              simp only [Bool.not_false,if_true]
              rw [h1];rfl
        obtain ⟨z,hz⟩:∃ z:Int,(if decide (0<(acc.length:Int))=true then Option.bind (pspec_l3Reader__want ⟨r0.list,(n:Int)⟩ (mkS [44])) λr=>some r.at_ else some (n:Int))=some z:=by
          cases hx:(if decide (0<(acc.length:Int))=true then Option.bind (pspec_l3Reader__want ⟨r0.list,(n:Int)⟩ (mkS [44])) λr=>some r.at_ else some (n:Int)) with
          | some z=>exact ⟨z,rfl⟩
          | none =>
            rw [hx] at hw
            cases hy:(if acc=[] then some ws else wT (mkS [44]) ws) with
            | none=>rw [hy] at hw;cases hw
            | some q=>rw [hy] at hw;obtain ⟨m,_,h⟩:=hw;cases h
        rw [hz,Option.bind_some] at hw
        have step:∀ (x:Str) (y:Int),pspec_l3Reader__name ⟨r0.list,z⟩=some (x,⟨r0.list,y⟩)→loopM (λ(xs2_1:Int × (List Str))=>(Option.bind (if decide (0≤xs2_1.1) then Option.bind (pspec_l3Reader__is (⟨r0.list,xs2_1.1⟩:l3Reader) (mkS [41])) λr3_1=>some (!(r3_1)) else some false:Option (Bool)) λs2_1=>if s2_1 then Option.bind (if decide (0<((xs2_1.2.length:Int))) then Option.bind (pspec_l3Reader__want (⟨r0.list,xs2_1.1⟩:l3Reader) (mkS [44])) λr3_2=>some r3_2.at_ else some xs2_1.1:Option (Int)) λs2_2=>Option.bind (pspec_l3Reader__name (⟨r0.list,s2_2⟩:l3Reader)) λr2_1=>Option.bind (appM xs2_1.2 ([r2_1.1]:List Str)) λys2_1=>some (.inl (r2_1.2.at_,ys2_1)) else some (.inr (xs2_1.1,xs2_1.2)):Option ((Int × (List Str)) ⊕ (Int × (List Str))))) ((n:Int),acc)=loopM (λ(xs2_1:Int × (List Str))=>(Option.bind (if decide (0≤xs2_1.1) then Option.bind (pspec_l3Reader__is (⟨r0.list,xs2_1.1⟩:l3Reader) (mkS [41])) λr3_1=>some (!(r3_1)) else some false:Option (Bool)) λs2_1=>if s2_1 then Option.bind (if decide (0<((xs2_1.2.length:Int))) then Option.bind (pspec_l3Reader__want (⟨r0.list,xs2_1.1⟩:l3Reader) (mkS [44])) λr3_2=>some r3_2.at_ else some xs2_1.1:Option (Int)) λs2_2=>Option.bind (pspec_l3Reader__name (⟨r0.list,s2_2⟩:l3Reader)) λr2_1=>Option.bind (appM xs2_1.2 ([r2_1.1]:List Str)) λys2_1=>some (.inl (r2_1.2.at_,ys2_1)) else some (.inr (xs2_1.1,xs2_1.2)):Option ((Int × (List Str)) ⊕ (Int × (List Str))))) (y,acc++[x]):=by
          intro x y hn
          refine loopM_inl ?_
          dsimp only
          rw [if_pos e0,sIs ha,ht]
          simp only [Option.bind_some,Bool.not_false,if_true]
          rw [hz,Option.bind_some,hn,Option.bind_some,appM_ok (hlt x)];rfl
        cases hy:(if acc=[] then some ws else wT (mkS [44]) ws) with
        | none =>
          rw [hy] at hw
          have hz1:z=-1:=by
            have:=Option.some.inj hw
            exact congrArg l3Reader.at_ this
          rw [Option.bind_none]
          refine ⟨acc++[mkS []],?_⟩
          rw [step (mkS []) (-1) (by rw [hz1];exact sNameB _)]
          exact loopM_inr rfl
        | some q =>
          rw [hy] at hw
          obtain ⟨m,a1,hw⟩:=hw
          have hz1:z=(m:Int):=congrArg l3Reader.at_ (Option.some.inj hw)
          have h2:=sName hll a1
          rw [Option.bind_some]
          cases hn:nT q with
          | none =>
            rw [hn] at h2
            obtain ⟨x,h2⟩:=h2
            refine ⟨acc++[x],?_⟩
            rw [step x (-1) (by rw [hz1];exact h2)]
            exact loopM_inr rfl
          | some p =>
            obtain ⟨x,q2⟩:=p
            rw [hn] at h2
            obtain ⟨m2,a2,h2⟩:=h2
            have su:SufS q2 ws:=by
              have s1:=nT_suf hn
              split at hy
              · cases hy;exact s1
              · exact SufS.trans s1.le (wT_suf hy)
            have h3:=(ih (acc++[x]) q2 (by have:=su.1;omega) (su.le.vW hv) (by have:=su.1;simp;omega)).1 r0 m2 hll hvl a2
            rw [step x (m2:Int) (by rw [hz1];exact h2)]
            exact h3
    · by_cases ht:isT ws (mkS [41])=true
      · rw [if_pos ht]
        refine loopM_inr ?_
        dsimp only
        rw [if_pos (show (!false)=true from rfl),take_ok,htk,ht];rfl
      · have ht : isT ws (mkS [41]) = false := by simpa using ht
        rw [if_neg (by simp [ht])]
        have hw:ImW (if acc=[] then some ws else wT (mkS [44]) ws) (Option.bind (if decide (0<(acc.length:Int)) then Option.bind (pimpl_wordReader__want ⟨ws,false⟩ 3 (mkS [44])) λr=>some (r.list,r.bad) else some (ws,false)) λa=>some ⟨a.1,a.2⟩):=by
          rw [e2]
          by_cases h0:acc=[]
          · rw [if_pos h0,decide_eq_true h0]
            rfl
          · rw [if_neg h0,decide_eq_false h0]
            have h1:=iWant hv (t:=mkS [44]) rfl (by decide)
            simp only [Bool.not_false,if_true]
            cases hq:wT (mkS [44]) ws with
            | none =>
              rw [hq] at h1
              obtain ⟨ws',h1⟩:=h1
              exact ⟨ws',by rw [h1];rfl⟩
            | some q =>
              rw [hq] at h1
              show _=_
              rw [show pimpl_wordReader__want ⟨ws,false⟩ 3 (mkS [44])=some ⟨q,false⟩ from h1];rfl
        obtain ⟨z,hz⟩:∃ z:List Word_ × Bool,(if decide (0<(acc.length:Int))=true then Option.bind (pimpl_wordReader__want ⟨ws,false⟩ 3 (mkS [44])) λr=>some (r.list,r.bad) else some (ws,false))=some z:=by
          cases hx:(if decide (0<(acc.length:Int))=true then Option.bind (pimpl_wordReader__want ⟨ws,false⟩ 3 (mkS [44])) λr=>some (r.list,r.bad) else some (ws,false)) with
          | some z=>exact ⟨z,rfl⟩
          | none =>
            rw [hx] at hw
            cases hy:(if acc=[] then some ws else wT (mkS [44]) ws) with
            | none=>rw [hy] at hw;obtain ⟨_,h⟩:=hw;cases h
            | some q=>rw [hy] at hw;cases hw
        rw [hz,Option.bind_some] at hw
        have step:∀ (x:Str) (ws':List Word_) (b:Bool),pimpl_wordReader__name ⟨z.1,z.2⟩=some (x,⟨ws',b⟩)→loopM (λ(xs2_1:(List Word_) × Bool × (List Str))=>(Option.bind (if !(xs2_1.2.1) then Option.bind (pimpl_wordReader__take (⟨xs2_1.1,xs2_1.2.1⟩:wordReader) 3 (mkS [41])) λr3_1=>some (r3_1.2.list,r3_1.2.bad,!(r3_1.1)) else some (xs2_1.1,xs2_1.2.1,false):Option ((List Word_) × Bool × Bool)) λs2_1=>if s2_1.2.2 then Option.bind (if decide (0<((xs2_1.2.2.length:Int))) then Option.bind (pimpl_wordReader__want (⟨s2_1.1,s2_1.2.1⟩:wordReader) 3 (mkS [44])) λr3_2=>some (r3_2.list,r3_2.bad) else some (s2_1.1,s2_1.2.1):Option ((List Word_) × Bool)) λs2_2=>Option.bind (pimpl_wordReader__name (⟨s2_2.1,s2_2.2⟩:wordReader)) λr2_1=>Option.bind (appM xs2_1.2.2 ([r2_1.1]:List Str)) λys2_1=>some (.inl (r2_1.2.list,r2_1.2.bad,ys2_1)) else some (.inr (s2_1.1,s2_1.2.1,xs2_1.2.2)):Option (((List Word_) × Bool × (List Str)) ⊕ ((List Word_) × Bool × (List Str))))) (ws,false,acc)=loopM (λ(xs2_1:(List Word_) × Bool × (List Str))=>(Option.bind (if !(xs2_1.2.1) then Option.bind (pimpl_wordReader__take (⟨xs2_1.1,xs2_1.2.1⟩:wordReader) 3 (mkS [41])) λr3_1=>some (r3_1.2.list,r3_1.2.bad,!(r3_1.1)) else some (xs2_1.1,xs2_1.2.1,false):Option ((List Word_) × Bool × Bool)) λs2_1=>if s2_1.2.2 then Option.bind (if decide (0<((xs2_1.2.2.length:Int))) then Option.bind (pimpl_wordReader__want (⟨s2_1.1,s2_1.2.1⟩:wordReader) 3 (mkS [44])) λr3_2=>some (r3_2.list,r3_2.bad) else some (s2_1.1,s2_1.2.1):Option ((List Word_) × Bool)) λs2_2=>Option.bind (pimpl_wordReader__name (⟨s2_2.1,s2_2.2⟩:wordReader)) λr2_1=>Option.bind (appM xs2_1.2.2 ([r2_1.1]:List Str)) λys2_1=>some (.inl (r2_1.2.list,r2_1.2.bad,ys2_1)) else some (.inr (s2_1.1,s2_1.2.1,xs2_1.2.2)):Option (((List Word_) × Bool × (List Str)) ⊕ ((List Word_) × Bool × (List Str))))) (ws',b,acc++[x]):=by
          intro x ws' b hn
          refine loopM_inl ?_
          dsimp only
          rw [if_pos (show (!false)=true from rfl),take_ok,htk,ht]
          simp only [Option.bind_some,Bool.not_false,if_true,Bool.false_eq_true,if_false]
          rw [hz,Option.bind_some,hn,Option.bind_some,appM_ok (hlt x)];rfl
        cases hy:(if acc=[] then some ws else wT (mkS [44]) ws) with
        | none =>
          rw [hy] at hw
          obtain ⟨ws1,hw⟩:=hw
          obtain ⟨x,ws2,hn⟩:=iNameB z.1
          have hz2:z.2=true:=by
            have:=Option.some.inj hw
            exact congrArg wordReader.bad this
          rw [Option.bind_none]
          refine ⟨acc++[x],ws2,?_⟩
          rw [step x ws2 true (by rw [hz2];exact hn)]
          exact loopM_inr rfl
        | some q =>
          rw [hy] at hw
          have hz1:z.1=q:=congrArg wordReader.list (Option.some.inj hw)
          have hz2:z.2=false:=congrArg wordReader.bad (Option.some.inj hw)
          have h2:=iName (ws:=q)
          rw [Option.bind_some]
          cases hn:nT q with
          | none =>
            rw [hn] at h2
            obtain ⟨x,ws2,h2⟩:=h2
            refine ⟨acc++[x],ws2,?_⟩
            rw [step x ws2 true (by rw [hz1,hz2];exact h2)]
            exact loopM_inr rfl
          | some p =>
            obtain ⟨x,q2⟩:=p
            rw [hn] at h2
            have su:SufS q2 ws:=by
              have s1:=nT_suf hn
              split at hy
              · cases hy;exact s1
              · exact SufS.trans s1.le (wT_suf hy)
            have h3:=(ih (acc++[x]) q2 (by have:=su.1;omega) (su.le.vW hv) (by have:=su.1;simp;omega)).2
            rw [step x q2 false (by rw [hz1,hz2];exact h2)]
            exact h3
theorem fnS_read {k:Nat} {ws:List Word_} (hk:2*ws.length+2≤k) (hv:vW ws) (hl:ws.length≤1000) {list:List Word_} {n:Nat} (hll:list.length≤1000) (hvl:vW list) (ha:AtW list n ws):SpO list (pF k ws) (pspec_l3Reader__fn ⟨list,(n:Int)⟩):=by
 unfold pspec_l3Reader__fn pF
 have bad2:∀ (nm:Str) (ps:List Str),(Option.bind (pspec_l3Reader__want ⟨list,-1⟩ (mkS [41])) λr0_4=>Option.bind (pspec_l3Reader__block ⟨list,r0_4.at_⟩) λr0_5=>some ((⟨nm,ps,r0_5.1⟩:Fn_),(⟨list,r0_5.2.at_⟩:l3Reader)))=some (⟨nm,ps,[]⟩,⟨list,-1⟩):=by
  intro nm ps
  rw [sWantB,Option.bind_some,sBlockB];rfl
 have bad1:∀ (nm:Str),(Option.bind (Option.bind (loopM (λ(xs2_1:Int × (List Str))=>(Option.bind (if decide (0≤xs2_1.1) then Option.bind (pspec_l3Reader__is (⟨(⟨list,n⟩:l3Reader).list,xs2_1.1⟩:l3Reader) (mkS [41])) λr3_1=>some (!(r3_1)) else some false:Option (Bool)) λs2_1=>if s2_1 then Option.bind (if decide (0<((xs2_1.2.length:Int))) then Option.bind (pspec_l3Reader__want (⟨(⟨list,n⟩:l3Reader).list,xs2_1.1⟩:l3Reader) (mkS [44])) λr3_2=>some r3_2.at_ else some xs2_1.1:Option (Int)) λs2_2=>Option.bind (pspec_l3Reader__name (⟨(⟨list,n⟩:l3Reader).list,s2_2⟩:l3Reader)) λr2_1=>Option.bind (appM xs2_1.2 ([r2_1.1]:List Str)) λys2_1=>some (.inl (r2_1.2.at_,ys2_1)) else some (.inr (xs2_1.1,xs2_1.2)):Option ((Int × (List Str)) ⊕ (Int × (List Str))))) (-1,[])) λe0=>some e0) λs0_1=>Option.bind (pspec_l3Reader__want ⟨list,s0_1.1⟩ (mkS [41])) λr0_4=>Option.bind (pspec_l3Reader__block ⟨list,r0_4.at_⟩) λr0_5=>some ((⟨nm,s0_1.2,r0_5.1⟩:Fn_),(⟨list,r0_5.2.at_⟩:l3Reader)))=some (⟨nm,[],[]⟩,⟨list,-1⟩):=by
  intro nm
  exact bindt (bindt (loopM_inr rfl) rfl) (bad2 nm [])
 have h1:=sWant hll ha (mkS [102,110])
 show SpO list (Option.bind (wT (mkS [102,110]) ws) _) _
 cases hq1:wT (mkS [102,110]) ws with
 | none =>
  rw [hq1] at h1
  rw [show pspec_l3Reader__want ⟨list,(n:Int)⟩ (mkS [102,110])=some ⟨list,-1⟩ from h1,Option.bind_some]
  dsimp only
  rw [sNameB,Option.bind_some]
  dsimp only
  rw [sWantB]
  exact ⟨_,bad1 _⟩
 | some a =>
 rw [hq1] at h1
 obtain ⟨m1,a1,h1⟩:=h1
 have su1:=wT_suf hq1
 rw [h1,Option.bind_some,Option.bind_some]
 dsimp only
 have h2:=sName hll a1
 cases hq2:nT a with
 | none =>
  rw [hq2] at h2
  obtain ⟨x,h2⟩:=h2
  rw [h2,Option.bind_some]
  dsimp only
  rw [sWantB]
  exact ⟨_,bad1 _⟩
 | some b =>
 obtain ⟨nm,b⟩:=b
 rw [hq2] at h2
 obtain ⟨m2,a2,h2⟩:=h2
 have su2:=nT_suf hq2
 rw [h2,Option.bind_some,Option.bind_some]
 dsimp only at a2 ⊢
 have h3:=sWant hll a2 (mkS [40])
 cases hq3:wT (mkS [40]) b with
 | none =>
  rw [hq3] at h3
  rw [show pspec_l3Reader__want ⟨list,(m2:Int)⟩ (mkS [40])=some ⟨list,-1⟩ from h3]
  exact ⟨_,bad1 _⟩
 | some c =>
 rw [hq3] at h3
 obtain ⟨m3,a3,h3⟩:=h3
 have su3:=wT_suf hq3
 have sc:SufS c ws:=SufS.trans (su3.le.trans su2.le) su1
 rw [h3,Option.bind_some,Option.bind_some]
 dsimp only
 have h4:=(simP k [] c (by have:=sc.1;omega) (sc.le.vW hv) (by have:=sc.1;simp;omega)).1 ⟨list,(n:Int)⟩ m3 hll hvl a3
 cases hq4:pP k [] c with
 | none =>
  rw [hq4] at h4
  obtain ⟨acc',h4⟩:=h4
  exact ⟨_,bindt (bindt h4 rfl) (bad2 nm acc')⟩
 | some d =>
 obtain ⟨ps,d⟩:=d
 rw [hq4] at h4
 obtain ⟨m4,w,a4,hw,h4⟩:=h4
 have su4:=pP_suf _ _ _ _ _ hq4
 have h5:=sWant hll a4 (mkS [41])
 have hw2:wT (mkS [41]) (w::d)=some d:=by simp [wT,isT,hw]
 rw [hw2] at h5
 obtain ⟨m5,a5,h5⟩:=h5
 have sd:SufS d ws:=SufS.trans su4.le sc
 have h6:=((sim k).1 d (by have:=sd.1;omega) (sd.le.vW hv) (by have:=sd.1;omega)).1 list m5 hll hvl a5
 rw [Option.bind_some]
 dsimp only
 cases hq6:pK k d with
 | none =>
  rw [hq6] at h6
  obtain ⟨x,h6⟩:=h6
  refine ⟨⟨nm,ps,x⟩,bindt (bindt h4 rfl) ?_⟩
  dsimp only
  rw [h5,Option.bind_some,h6];rfl
 | some q =>
  rw [hq6] at h6
  obtain ⟨m6,a6,h6⟩:=h6
  refine ⟨m6,a6,bindt (bindt h4 rfl) ?_⟩
  dsimp only
  rw [h5,Option.bind_some,h6];rfl
theorem fnI_read {k:Nat} {ws:List Word_} (hk:2*ws.length+2≤k) (hv:vW ws) (hl:ws.length≤1000):ImO (pF k ws) (pimpl_wordReader__fn ⟨ws,false⟩):=by
 unfold pimpl_wordReader__fn pF
 have bad2:∀ (nm:Str) (ps:List Str) (ws1:List Word_),∃ ws2,(Option.bind (pimpl_wordReader__block ⟨ws1,true⟩) λr0_4=>some ((⟨nm,ps,r0_4.1⟩:Fn_),r0_4.2))=some (⟨nm,ps,[]⟩,⟨ws2,true⟩):=by
  intro nm ps ws1
  obtain ⟨ws2,h⟩:=iBlockB ws1
  exact ⟨ws2,by rw [h];rfl⟩
 have bad1:∀ (nm:Str) (ws1:List Word_),∃ x ws2,(Option.bind (pimpl_wordReader__want ⟨ws1,true⟩ 3 (mkS [40])) λr0_3=>Option.bind (Option.bind (loopM (λ(xs2_1:(List Word_) × Bool × (List Str))=>(Option.bind (if !(xs2_1.2.1) then Option.bind (pimpl_wordReader__take (⟨xs2_1.1,xs2_1.2.1⟩:wordReader) 3 (mkS [41])) λr3_1=>some (r3_1.2.list,r3_1.2.bad,!(r3_1.1)) else some (xs2_1.1,xs2_1.2.1,false):Option ((List Word_) × Bool × Bool)) λs2_1=>if s2_1.2.2 then Option.bind (if decide (0<((xs2_1.2.2.length:Int))) then Option.bind (pimpl_wordReader__want (⟨s2_1.1,s2_1.2.1⟩:wordReader) 3 (mkS [44])) λr3_2=>some (r3_2.list,r3_2.bad) else some (s2_1.1,s2_1.2.1):Option ((List Word_) × Bool)) λs2_2=>Option.bind (pimpl_wordReader__name (⟨s2_2.1,s2_2.2⟩:wordReader)) λr2_1=>Option.bind (appM xs2_1.2.2 ([r2_1.1]:List Str)) λys2_1=>some (.inl (r2_1.2.list,r2_1.2.bad,ys2_1)) else some (.inr (s2_1.1,s2_1.2.1,xs2_1.2.2)):Option (((List Word_) × Bool × (List Str)) ⊕ ((List Word_) × Bool × (List Str))))) (r0_3.list,r0_3.bad,[])) λe0=>some e0) λs0_1=>Option.bind (pimpl_wordReader__block ⟨s0_1.1,s0_1.2.1⟩) λr0_4=>some ((⟨nm,s0_1.2.2,r0_4.1⟩:Fn_),r0_4.2))=some (x,⟨ws2,true⟩):=by
  intro nm ws1
  obtain ⟨ws3,h3⟩:=iWantB ws1 3 (mkS [40])
  obtain ⟨ws4,h4⟩:=bad2 nm [] ws3
  exact ⟨_,ws4,by rw [h3,Option.bind_some];exact bindt (bindt (loopM_inr rfl) rfl) h4⟩
 have h1:=iWantT (tk_key hv (t:=mkS [102,110]) (by decide))
 show ImO (Option.bind (wT (mkS [102,110]) ws) _) _
 cases hq1:wT (mkS [102,110]) ws with
 | none =>
  rw [hq1] at h1
  obtain ⟨ws1,h1⟩:=h1
  obtain ⟨x,ws2,h2⟩:=iNameB ws1
  obtain ⟨y,ws3,h3⟩:=bad1 x ws2
  rw [h1,Option.bind_some,h2,Option.bind_some]
  exact ⟨_,_,h3⟩
 | some a =>
 rw [hq1] at h1
 have su1:=wT_suf hq1
 rw [show pimpl_wordReader__want ⟨ws,false⟩ 4 (mkS [102,110])=some ⟨a,false⟩ from h1,Option.bind_some,Option.bind_some]
 have h2:=iName (ws:=a)
 cases hq2:nT a with
 | none =>
  rw [hq2] at h2
  obtain ⟨x,ws2,h2⟩:=h2
  obtain ⟨y,ws3,h3⟩:=bad1 x ws2
  rw [h2,Option.bind_some]
  exact ⟨_,_,h3⟩
 | some b =>
 obtain ⟨nm,b⟩:=b
 rw [hq2] at h2
 have su2:=nT_suf hq2
 have hvb:=(su2.le.trans su1.le).vW hv
 rw [show pimpl_wordReader__name ⟨a,false⟩=some (nm,⟨b,false⟩) from h2,Option.bind_some,Option.bind_some]
 dsimp only
 have h3:=iWant hvb (t:=mkS [40]) rfl (by decide)
 cases hq3:wT (mkS [40]) b with
 | none =>
  rw [hq3] at h3
  obtain ⟨ws3,h3⟩:=h3
  obtain ⟨ws4,h4⟩:=bad2 nm [] ws3
  rw [h3,Option.bind_some]
  exact ⟨_,ws4,bindt (bindt (loopM_inr rfl) rfl) h4⟩
 | some c =>
 rw [hq3] at h3
 have su3:=wT_suf hq3
 have sc:SufS c ws:=SufS.trans (su3.le.trans su2.le) su1
 rw [show pimpl_wordReader__want ⟨b,false⟩ 3 (mkS [40])=some ⟨c,false⟩ from h3,Option.bind_some,Option.bind_some]
 dsimp only
 have h4:=(simP k [] c (by have:=sc.1;omega) (sc.le.vW hv) (by have:=sc.1;simp;omega)).2
 cases hq4:pP k [] c with
 | none =>
  rw [hq4] at h4
  obtain ⟨acc',ws4,h4⟩:=h4
  obtain ⟨ws5,h5⟩:=bad2 nm acc' ws4
  exact ⟨_,ws5,bindt (bindt h4 rfl) h5⟩
 | some d =>
 obtain ⟨ps,d⟩:=d
 rw [hq4] at h4
 have su4:=pP_suf _ _ _ _ _ hq4
 have sd:SufS d ws:=SufS.trans su4.le sc
 have h6:=((sim k).1 d (by have:=sd.1;omega) (sd.le.vW hv) (by have:=sd.1;omega)).2
 unfold OkI at h6
 rw [Option.bind_some]
 dsimp only
 cases hq6:pK k d with
 | none =>
  rw [hq6] at h6
  obtain ⟨x,ws6,h6⟩:=h6
  refine ⟨⟨nm,ps,x⟩,ws6,bindt (bindt h4 rfl) ?_⟩
  dsimp only
  rw [h6];rfl
 | some q =>
  rw [hq6] at h6
  refine bindt (bindt h4 rfl) ?_
  dsimp only
  rw [show pimpl_wordReader__block ⟨d,false⟩=some (q.1,⟨q.2,false⟩) from h6];rfl
theorem simG {k0:Nat}:∀ (k:Nat) (acc:List Fn_) (ws:List Word_),ws.length+1≤k→2*ws.length+2≤k0→vW ws→acc.length+ws.length≤1000 →
      (∀ (list:List Word_) (n:Nat),list.length≤1000→vW list→AtW list n ws→match pG k0 k acc ws with
        | some p=>loopM (λ(xs2_1:Int × (List Fn_))=>(Option.bind (if decide (0≤xs2_1.1) then some (decide (xs2_1.1<(((list,true).1.length:Int)))) else some false:Option (Bool)) λs2_1=>if s2_1 then Option.bind (pspec_l3Reader__fn (⟨(list,true).1,xs2_1.1⟩:l3Reader)) λr2_1=>Option.bind (appM xs2_1.2 ([r2_1.1]:List Fn_)) λys2_1=>some (.inl (r2_1.2.at_,ys2_1)) else some (.inr (xs2_1.1,xs2_1.2)):Option ((Int × (List Fn_)) ⊕ (Int × (List Fn_))))) ((n:Int),acc)=some ((list.length:Int),p)
        | none=>∃ acc',loopM (λ(xs2_1:Int × (List Fn_))=>(Option.bind (if decide (0≤xs2_1.1) then some (decide (xs2_1.1<(((list,true).1.length:Int)))) else some false:Option (Bool)) λs2_1=>if s2_1 then Option.bind (pspec_l3Reader__fn (⟨(list,true).1,xs2_1.1⟩:l3Reader)) λr2_1=>Option.bind (appM xs2_1.2 ([r2_1.1]:List Fn_)) λys2_1=>some (.inl (r2_1.2.at_,ys2_1)) else some (.inr (xs2_1.1,xs2_1.2)):Option ((Int × (List Fn_)) ⊕ (Int × (List Fn_))))) ((n:Int),acc)=some (-1,acc')) ∧
      (match pG k0 k acc ws with
        | some p=>loopM (λ(xs2_1:(List Word_) × Bool × (List Fn_))=>(Option.bind (if !(xs2_1.2.1) then some (decide (0<((xs2_1.1.length:Int)))) else some false:Option (Bool)) λs2_1=>if s2_1 then Option.bind (pimpl_wordReader__fn (⟨xs2_1.1,xs2_1.2.1⟩:wordReader)) λr2_1=>Option.bind (appM xs2_1.2.2 ([r2_1.1]:List Fn_)) λys2_1=>some (.inl (r2_1.2.list,r2_1.2.bad,ys2_1)) else some (.inr (xs2_1.1,xs2_1.2.1,xs2_1.2.2)):Option (((List Word_) × Bool × (List Fn_)) ⊕ ((List Word_) × Bool × (List Fn_))))) (ws,false,acc)=some ([],false,p)
        | none=>∃ acc' ws',loopM (λ(xs2_1:(List Word_) × Bool × (List Fn_))=>(Option.bind (if !(xs2_1.2.1) then some (decide (0<((xs2_1.1.length:Int)))) else some false:Option (Bool)) λs2_1=>if s2_1 then Option.bind (pimpl_wordReader__fn (⟨xs2_1.1,xs2_1.2.1⟩:wordReader)) λr2_1=>Option.bind (appM xs2_1.2.2 ([r2_1.1]:List Fn_)) λys2_1=>some (.inl (r2_1.2.list,r2_1.2.bad,ys2_1)) else some (.inr (xs2_1.1,xs2_1.2.1,xs2_1.2.2)):Option (((List Word_) × Bool × (List Fn_)) ⊕ ((List Word_) × Bool × (List Fn_))))) (ws,false,acc)=some (ws',true,acc')):=by
  intro k
  induction k with
  | zero=>intro acc ws h;omega
  | succ k ih =>
    intro acc ws hk hk0 hv hl
    have hlt:∀ x:Fn_,acc.length+[x].length≤2147483648:=λx=>by simp;omega
    rw [pG]
    by_cases h0:ws=[]
    · subst h0
      rw [if_pos rfl]
      refine ⟨λlist n hll hvl ha=>?_,loopM_inr rfl⟩
      have:=at_nil ha
      refine loopM_inr ?_
      have e0:decide (0≤(n:Int))=true:=by simp
      have e1:decide ((n:Int)<(list.length:Int))=false:=by simp;omega
      dsimp only
      rw [if_pos e0,Option.bind_some,e1,this];rfl
    · rw [if_neg h0]
      have hpos:=List.length_pos_iff.2 h0
      refine ⟨λlist n hll hvl ha=>?_,?_⟩
      · have hlt2:n<list.length:=by
          cases ws with
          | nil=>exact absurd rfl h0
          | cons w r=>exact (at_cons ha).1
        have e0:decide (0≤(n:Int))=true:=by simp
        have e1:decide ((n:Int)<(list.length:Int))=true:=by simp;omega
        have h1:=fnS_read hk0 hv (by omega) hll hvl ha
        have step:∀ (x:Fn_) (y:Int),pspec_l3Reader__fn ⟨list,(n:Int)⟩=some (x,⟨list,y⟩)→loopM (λ(xs2_1:Int × (List Fn_))=>(Option.bind (if decide (0≤xs2_1.1) then some (decide (xs2_1.1<(((list,true).1.length:Int)))) else some false:Option (Bool)) λs2_1=>if s2_1 then Option.bind (pspec_l3Reader__fn (⟨(list,true).1,xs2_1.1⟩:l3Reader)) λr2_1=>Option.bind (appM xs2_1.2 ([r2_1.1]:List Fn_)) λys2_1=>some (.inl (r2_1.2.at_,ys2_1)) else some (.inr (xs2_1.1,xs2_1.2)):Option ((Int × (List Fn_)) ⊕ (Int × (List Fn_))))) ((n:Int),acc)=loopM (λ(xs2_1:Int × (List Fn_))=>(Option.bind (if decide (0≤xs2_1.1) then some (decide (xs2_1.1<(((list,true).1.length:Int)))) else some false:Option (Bool)) λs2_1=>if s2_1 then Option.bind (pspec_l3Reader__fn (⟨(list,true).1,xs2_1.1⟩:l3Reader)) λr2_1=>Option.bind (appM xs2_1.2 ([r2_1.1]:List Fn_)) λys2_1=>some (.inl (r2_1.2.at_,ys2_1)) else some (.inr (xs2_1.1,xs2_1.2)):Option ((Int × (List Fn_)) ⊕ (Int × (List Fn_))))) (y,acc++[x]):=by
          intro x y hn
          refine loopM_inl ?_
          dsimp only
          rw [if_pos e0,Option.bind_some,e1,if_pos rfl,hn,Option.bind_some,appM_ok (hlt x)];rfl
        cases hq:pF k0 ws with
        | none =>
          rw [hq] at h1
          obtain ⟨x,h1⟩:=h1
          refine ⟨acc++[x],?_⟩
          rw [step x (-1) h1]
          exact loopM_inr rfl
        | some p =>
          obtain ⟨f,q⟩:=p
          rw [hq] at h1
          obtain ⟨m,a1,h1⟩:=h1
          have su:=pF_suf hq
          have h2:=(ih (acc++[f]) q (by have:=su.1;omega) (by have:=su.1;omega) (su.le.vW hv) (by have:=su.1;simp;omega)).1 list m hll hvl a1
          rw [step f (m:Int) h1,Option.bind_some]
          exact h2
      · have e1 : decide (0 < (ws.length : Int)) = true := by simp; omega
        have h1:=fnI_read hk0 hv (by omega)
        have step:∀ (x:Fn_) (ws':List Word_) (b:Bool),pimpl_wordReader__fn ⟨ws,false⟩=some (x,⟨ws',b⟩)→loopM (λ(xs2_1:(List Word_) × Bool × (List Fn_))=>(Option.bind (if !(xs2_1.2.1) then some (decide (0<((xs2_1.1.length:Int)))) else some false:Option (Bool)) λs2_1=>if s2_1 then Option.bind (pimpl_wordReader__fn (⟨xs2_1.1,xs2_1.2.1⟩:wordReader)) λr2_1=>Option.bind (appM xs2_1.2.2 ([r2_1.1]:List Fn_)) λys2_1=>some (.inl (r2_1.2.list,r2_1.2.bad,ys2_1)) else some (.inr (xs2_1.1,xs2_1.2.1,xs2_1.2.2)):Option (((List Word_) × Bool × (List Fn_)) ⊕ ((List Word_) × Bool × (List Fn_))))) (ws,false,acc)=loopM (λ(xs2_1:(List Word_) × Bool × (List Fn_))=>(Option.bind (if !(xs2_1.2.1) then some (decide (0<((xs2_1.1.length:Int)))) else some false:Option (Bool)) λs2_1=>if s2_1 then Option.bind (pimpl_wordReader__fn (⟨xs2_1.1,xs2_1.2.1⟩:wordReader)) λr2_1=>Option.bind (appM xs2_1.2.2 ([r2_1.1]:List Fn_)) λys2_1=>some (.inl (r2_1.2.list,r2_1.2.bad,ys2_1)) else some (.inr (xs2_1.1,xs2_1.2.1,xs2_1.2.2)):Option (((List Word_) × Bool × (List Fn_)) ⊕ ((List Word_) × Bool × (List Fn_))))) (ws',b,acc++[x]):=by
          intro x ws' b hn
          refine loopM_inl ?_
          dsimp only
          rw [if_pos (show (!false)=true from rfl),Option.bind_some,e1,if_pos rfl,hn,Option.bind_some,appM_ok (hlt x)];rfl
        cases hq:pF k0 ws with
        | none =>
          rw [hq] at h1
          obtain ⟨x,ws',h1⟩:=h1
          refine ⟨acc++[x],ws',?_⟩
          rw [step x ws' true h1]
          exact loopM_inr rfl
        | some p =>
          obtain ⟨f,q⟩:=p
          rw [hq] at h1
          have su:=pF_suf hq
          have h2:=(ih (acc++[f]) q (by have:=su.1;omega) (by have:=su.1;omega) (su.le.vW hv) (by have:=su.1;simp;omega)).2
          rw [step f q false h1,Option.bind_some]
          exact h2
end Prg
end Go.Wk
namespace Go.Wk
open Go
namespace Prg
set_option maxRecDepth 10000
section
variable {α:Type}
end
def szE (e:Expr_):Nat:=3*partsE e
end Prg
end Go.Wk
namespace Go.Wk
open Go
namespace Prg
set_option maxRecDepth 10000
def noP:Program_:=⟨[]⟩
noncomputable def rdG (ws:List Word_):Option (List Fn_):=pG 2000 1001 [] ws
theorem readP_some {s:Str} {ws:List Word_} (h:cutR s=some ws):(match rdG ws with
  | some fns=>spec_ReadProgram s=some (if progB ⟨fns⟩ then (⟨fns⟩,true) else (noP,false))∧impl_ReadProgram s=some (if progB ⟨fns⟩ then (⟨fns⟩,true) else (noP,false))
  | none=>spec_ReadProgram s=some (noP,false)∧impl_ReadProgram s=some (noP,false)):=by
 obtain ⟨hv,hl⟩:=cutR_valid h
 obtain ⟨h1,h2⟩:=simG (k0:=2000) 1001 [] ws (by omega) (by omega) hv (by simp;omega)
 replace h1:=h1 ws 0 (by omega) hv (at_zero ws)
 unfold rdG
 cases hq:pG 2000 1001 [] ws with
 | some fns =>
  rw [hq] at h1 h2
  constructor
  ·unfold spec_ReadProgram
   rw [cutWordsS_ok,cutV_some h,Option.bind_some]
   dsimp only
   rw [if_neg (by simp)]
   refine bindt (bindt h1 rfl) ?_
   have e1:decide ((ws.length:Int)<0)=false:=by simp
   dsimp only
   rw [e1,if_neg (by simp),progS_ok]
   cases progB ⟨fns⟩<;>rfl
  ·unfold impl_ReadProgram
   rw [cutWords_ok,cutV_some h,Option.bind_some]
   refine bindt (bindt h2 rfl) ?_
   dsimp only
   rw [if_neg (by simp),progI_ok]
   cases progB ⟨fns⟩<;>rfl
 | none =>
  rw [hq] at h1 h2
  obtain ⟨acc1,h1⟩:=h1
  obtain ⟨acc2,ws2,h2⟩:=h2
  constructor
  ·unfold spec_ReadProgram
   rw [cutWordsS_ok,cutV_some h,Option.bind_some]
   dsimp only
   rw [if_neg (by simp)]
   exact bindt (bindt h1 rfl) rfl
  ·unfold impl_ReadProgram
   rw [cutWords_ok,cutV_some h,Option.bind_some]
   exact bindt (bindt h2 rfl) rfl
theorem readP_none {s:Str} (h:cutR s=none):spec_ReadProgram s=some (noP,false)∧impl_ReadProgram s=some (noP,false):=by
 constructor
 ·unfold spec_ReadProgram
  rw [cutWordsS_ok,cutV_none h];rfl
 ·unfold impl_ReadProgram
  rw [cutWords_ok,cutV_none h,Option.bind_some]
  exact bindt (bindt (loopM_inr rfl) rfl) rfl
theorem readProgram_ok (s:Str):∃ p ok,spec_ReadProgram s=some (p,ok)∧impl_ReadProgram s=some (p,ok)∧((ok=true∧progB p=true∧∃ ws,cutR s=some ws∧rdG ws=some p.fns)∨(ok=false∧p=noP)):=by
 cases h:cutR s with
 | none=>exact ⟨_,_,(readP_none h).1,(readP_none h).2,.inr ⟨rfl,rfl⟩⟩
 | some ws =>
  have h1:=readP_some h
  cases hq:rdG ws with
  | none =>
   rw [hq] at h1
   exact ⟨_,_,h1.1,h1.2,.inr ⟨rfl,rfl⟩⟩
  | some fns =>
   rw [hq] at h1
   dsimp only at h1
   cases hp:progB ⟨fns⟩ with
   | true =>
    rw [hp] at h1
    exact ⟨_,_,h1.1,h1.2,.inl ⟨rfl,hp,ws,rfl,hq⟩⟩
   | false =>
    rw [hp] at h1
    exact ⟨_,_,h1.1,h1.2,.inr ⟨rfl,rfl⟩⟩
end Prg
end Go.Wk
namespace Go.Wk
open Go
namespace Prg
set_option maxRecDepth 10000
theorem name_nk {s:Str} (h:nameB s=true):∀ t∈glob_impl_keys,s≠t:=by
 unfold nameB at h
 simp only [Bool.and_eq_true,Bool.not_eq_true'] at h
 have h2:=h.2
 unfold keyB at h2
 have h3:=of_decide_eq_false h2
 intro t ht e
 subst e
 exact h3 ht
theorem name_ns {s:Str} (h:nameB s=true):s≠mkS [41]∧s≠mkS [125]∧s≠mkS [44]:=by
 refine ⟨λe=>?_,λe=>?_,λe=>?_⟩<;>(subst e;revert h;decide)
def ReadB (l:List Stmt_):Prop:=∀ k acc r,2*(wSL l).length+1≤k→vW r→(wSL l).length+r.length+1≤1000→pB k acc (wSL l++cB::r)=some (acc++l,r)
end Prg
end Go.Wk
namespace Go.Wk
open Go
namespace Prg
set_option maxRecDepth 10000
end Prg
end Go.Wk
namespace Go.Wk
open Go
namespace Prg
set_option maxRecDepth 10000
theorem forN_self {α X:Type} {xs:List α} {body:Int→Unit→Option (Unit ⊕ X)} (h:∀ x∈xs,∀ i,getI xs i=some x→body i ()=some (.inl ())):forN body ((xs.length:Int) - 0).toNat 0 ()=some (.inl ()):=by
 rcases forN_list (xs:=xs) (body:=body) (s:=()) (λ_ _=>True) (λ_=>False) trivial (λl x r s hx _=>.inl ⟨(),h x (by rw [hx];simp) _ (by rw [hx,getI_mid]),trivial⟩) with ⟨s,h1,_⟩ | ⟨_,_,h2⟩
 ·exact h1
 ·exact h2.elim
theorem texts_self (l:List Str):spec_l3Texts l l=some true:=by
 unfold spec_l3Texts
 rw [if_neg (by simp)]
 refine bindt (forN_self λx hx i hi=>?_) rfl
 exact bindt hi (bindt hi (by rw [if_neg (by simp)]))
theorem specL_self:∀ l:List Stmt_,(∀ d,(∀ s∈l,formS d s=true)→spec_l3SameList l l=some true):=by
 intro l
 induction l using stmtsInd with
 | h l ih =>
  intro d hd
  rw [spec_l3SameList,if_neg (by simp)]
  refine bindt (forN_self λs hs i hi=>?_) rfl
  obtain ⟨d,rfl⟩:∃ d',d=d'+1:=by
   cases d with
   | zero=>have:=hd s hs;rw [formS] at this;cases this
   | succ d=>exact ⟨d,rfl⟩
  have hf:=hd s hs
  rw [formS] at hf
  simp only [Bool.and_eq_true,List.all_eq_true] at hf
  have hal:s.args.length≤2:=by
   have h1:=hf.1
   unfold hdB at h1
   simp only [Bool.and_eq_true,decide_eq_true_iff] at h1
   have:=h1.2.1
   unfold argN at this
   split at this<;>omega
  refine bindt (a:=false) (bindt hi (bindt hi (by simp))) ?_
  rw [if_neg Bool.false_ne_true]
  have hloop:loopM (λ(xs3_1:Int)=>(Option.bind (getI l i) λx3_1=>if decide (xs3_1<((x3_1.args.length:Int))) then Option.bind (getI l i) λx3_2=>Option.bind (getI x3_1.args xs3_1) λx3_3=>Option.bind (getI x3_2.args xs3_1) λx3_4=>Option.bind (spec_SameExpr x3_3 x3_4) λr3_1=>if !(r3_1) then some (.inr (.inl false)) else some (.inl (w64 (xs3_1+1))) else some (.inr (.inr ())):Option ((Int) ⊕ (Bool ⊕ Unit)))) 0=some (.inr ()):=by
   obtain ⟨z,z1,z2⟩:=loopM_law (b1:=(λ(xs3_1:Int)=>(Option.bind (getI l i) λx3_1=>if decide (xs3_1<((x3_1.args.length:Int))) then Option.bind (getI l i) λx3_2=>Option.bind (getI x3_1.args xs3_1) λx3_3=>Option.bind (getI x3_2.args xs3_1) λx3_4=>Option.bind (spec_SameExpr x3_3 x3_4) λr3_1=>if !(r3_1) then some (.inr (.inl false)) else some (.inl (w64 (xs3_1+1))) else some (.inr (.inr ())):Option ((Int) ⊕ (Bool ⊕ Unit))))) (λj:Int=>0≤j∧j≤(s.args.length:Int)) (λx=>x=.inr ()) (λj=>(s.args.length - j).toNat) (λj hj=>by
    by_cases hc:j<(s.args.length:Int)
    ·have e1:decide (j<(s.args.length:Int))=true:=decide_eq_true hc
     obtain ⟨a,ha⟩:∃ a,getI s.args j=some a:=⟨_,getI_lt hj.1 hc⟩
     refine .inl ⟨j+1,?_,⟨by omega,by omega⟩,by omega⟩
     rw [hi]
     simp only [Option.bind_some,e1,if_true,ha,sameSE,Bool.not_true,Bool.false_eq_true,if_false]
     rw [w64_id (by omega) (by omega)]
    ·have e1:decide (j<(s.args.length:Int))=false:=decide_eq_false hc
     refine .inr ⟨_,?_,rfl⟩
     rw [hi]
     simp only [Option.bind_some,e1,Bool.false_eq_true,if_false]) 4 0 ⟨by omega,by omega⟩ (by omega)
   rw [z1,z2]
  refine bindt (bindt hloop rfl) ?_
  obtain ⟨g1,g2⟩:=ih s hs
  rw [Sum.elim_inl]
  refine bindt (a:=false) (bindt hi (bindt hi (bindt (g1 d hf.2.1) ?_))) ?_
  ·rw [if_neg (by simp)]
   exact bindt (g2 d hf.2.2) rfl
  ·rfl
theorem specP_self {p:Program_} (h:progB p=true):spec_SamePrograms p p=some true:=by
 unfold progB at h
 simp only [Bool.and_eq_true,List.all_eq_true] at h
 have hf:=h.2.1
 unfold spec_SamePrograms
 rw [if_neg (by simp)]
 refine bindt (forN_self λf hfm i hi=>?_) rfl
 have hff:=hf f hfm
 unfold fnB at hff
 simp only [Bool.and_eq_true,decide_eq_true_iff,List.all_eq_true] at hff
 refine bindt (a:=false) (bindt hi (bindt hi ?_)) ?_
 ·rw [if_neg (by simp)]
  refine bindt (texts_self f.params) ?_
  rw [if_neg (by simp)]
  exact bindt (specL_self _ 4 hff.2.2.2) rfl
 ·rfl
end Prg
end Go.Wk
namespace Go.Wk
open Go
namespace Prg
set_option maxRecDepth 10000
theorem progB_iff {p:Program_} (hp:progB p=true):1≤p.fns.length∧p.fns.length≤4∧∀ f∈p.fns,fnB f=true:=by
 unfold progB at hp
 simp only [Bool.and_eq_true,List.all_eq_true] at hp
 have:=inB_iff.1 hp.1
 exact ⟨by omega,by omega,hp.2.1⟩
theorem subK {s:Str} {lo hi:Int} (h0:0≤lo) (h1:lo≤hi) (h2:hi≤(s.b.length:Int)):∃ t,subS s lo hi=some t∧(t.b.length:Int)≤hi - lo:=by
 refine ⟨_,subS_some.2 ⟨⟨h0,h1,h2⟩,rfl⟩,?_⟩
 unfold Str.sub
 dsimp only
 simp only [List.length_drop,List.length_take]
 omega
theorem drawProg_ok (code:List UInt8):∃ s,spec_DrawReadProgram code=some s:=by
 obtain ⟨b,h1,hb⟩:=open_ok code
 have key:Dr (spec_DrawReadProgram code) (λ_=>True):=by
  unfold spec_DrawReadProgram
  rw [h1,Option.bind_some]
  refine DrA.bind (prog_dr hb) λp q g1 g2 g3=>?_
  obtain ⟨g3,g4⟩:=g3
  dsimp only
  obtain ⟨T,t1,t2⟩:=l3Text_ok g3 (by omega)
  rw [t1,Option.bind_some]
  have hT:T.b.length≤90000:=by
   have hv:=wFs_ok (progB_iff g3).2.2
   have:=txt_len _ hv.1
   have:=(progB_iff g3).2.1
   rw [t2];omega
  refine pk hb (by omega) (by omega) λv v0 v1=>?_
  have v1:=v1 (by omega)
  dsimp only
  refine pk hb (by omega) (by omega) λu _ _=>?_
  dsimp only
  refine Dr.ite (λ_=>?_) λ_=>?_
  ·obtain ⟨x, x1, x2⟩ := subK (s := T) (lo := 0) (hi := v) (by omega) (by omega) (by omega)
   obtain ⟨y,y1,y2⟩:=subK (s:=T) (lo:=v) (hi:=(T.b.length:Int)) (by omega) (by omega) (by omega)
   rw [x1,Option.bind_some,y1,Option.bind_some]
   refine ofx hb (by decide) (by omega) (by omega) λz hz=>?_
   have hz2:z.b.length≤20:=by
    simp only [List.mem_cons,List.not_mem_nil,or_false] at hz
    rcases hz with rfl | rfl | rfl | rfl | rfl | rfl<;>decide
   dsimp only
   obtain ⟨c,c1,c2⟩:=cat_ex (s:=x) (t:=z) (by omega)
   have c3:=congrArg List.length c2
   rw [List.length_append] at c3
   obtain ⟨d,d1,d2⟩:=cat_ex (s:=c) (t:=y) (by omega)
   rw [c1,Option.bind_some,d1,Option.bind_some]
   exact Dr.some trivial
  refine Dr.ite (λ_=>?_) λ_=>?_
  ·obtain ⟨x, x1, x2⟩ := subK (s := T) (lo := 0) (hi := v) (by omega) (by omega) (by omega)
   rw [x1,Option.bind_some]
   exact Dr.some trivial
  refine Dr.ite (λ_=>?_) λ_=>?_
  ·exact Dr.bind (l1Text_dr hb (by omega) (by omega)) λx _=>Dr.some trivial
  refine Dr.ite (λ_=>?_) λ_=>Dr.some trivial
  obtain ⟨c,c1,c2⟩:=cat_ex (s:=T) (t:=mkS [32,102,110,32,113,32,40,32,41,32,123,32,105,102,32,49,32,123,32,125,32,101,108,115,101,32,123,32,125,32,125]) (by rw [c_b];simp;omega)
  rw [c1,Option.bind_some]
  exact Dr.some trivial
 obtain ⟨z,h,_⟩:=key
 exact ⟨z,h⟩
end Prg
end Go.Wk
namespace Go.Wk
open Go
namespace Prg
set_option maxRecDepth 10000
def tOB:Str:=mkS [123]
def tCB:Str:=mkS [125]
def Nb (w:Word_):Prop:=w.text≠tOB∧w.text≠tCB∧w.text≠tFn
def Nt (ws r:List Word_):Prop:=∃ c,ws=c++r∧∀ x∈c,Nb x
theorem Nt.refl (r:List Word_):Nt r r:=⟨[],rfl,λx hx=>by cases hx⟩
theorem Nt.trans {a b c:List Word_} (h:Nt a b) (h':Nt b c):Nt a c:=by
 obtain ⟨x,rfl,hx⟩:=h
 obtain ⟨y,rfl,hy⟩:=h'
 exact ⟨x++y,by simp,λz hz=>(List.mem_append.1 hz).elim (hx z) (hy z)⟩
theorem Nt.cons {w:Word_} {a b:List Word_} (hw:Nb w) (h:Nt a b):Nt (w::a) b:=by
 obtain ⟨x,rfl,hx⟩:=h
 exact ⟨w::x,rfl,λz hz=>(List.mem_cons.1 hz).elim (λe=>e▸hw) (hx z)⟩
theorem nb_t {w:Word_} {t:Str} (h:w.text=t) (ht:t≠tOB∧t≠tCB∧t≠tFn):Nb w:=by unfold Nb;rw [h];exact ht
theorem nb_name {w:Word_} (hv:wordB w=true) (h:w.kind=1):Nb w:=by
 have hn:nameB w.text=true:=by
  have hw:w=⟨1,w.text⟩:=by cases w;simp at h;subst h;rfl
  rw [hw] at hv
  exact hv
 exact ⟨λe=>by rw [e] at hn;revert hn;decide,(name_ns hn).2.1,name_nk hn tFn (by decide)⟩
theorem nb_num {w:Word_} (hv:wordB w=true) (h:w.kind=2):Nb w:=by
 refine ⟨ne_sign hv (by omega) rfl (by decide),ne_sign hv (by omega) rfl (by decide),λe=>?_⟩
 have hw:w=⟨2,tFn⟩:=by cases w;simp at h e;subst h;subst e;rfl
 rw [hw] at hv
 revert hv
 decide +kernel
theorem nb_op {lv:Int} {w:Word_} (h:opW lv w≠0):Nb w:=by
 refine ⟨λe=>h ?_,λe=>h ?_,λe=>h ?_⟩<;>(unfold opW;rw [e];(repeat' split)<;>first | rfl | (rename_i h';revert h';decide))
def ntJ:Job→Prop
 | .E _ ws _ r=>vW ws→Nt ws r
 | .L _ _ ws _ r=>vW ws→Nt ws r
 | .A ws _ r=>vW ws→Nt ws r
 | .M _ ws _ r=>vW ws→Nt ws r
theorem Nt.vW {a b:List Word_} (h:Nt a b) (hv:Prg.vW a):Prg.vW b:=by
 obtain ⟨x,rfl,_⟩:=h
 exact λz hz=>hv z (List.mem_append_right _ hz)
theorem rd_neut {j:Job} (h:Rd j):ntJ j:=by
 induction h
 case neg w ws e r hw h ih=>intro hv;exact (ih (vW_tail hv)).cons (nb_t hw (by decide))
 case at_ w ws e r hw h ih=>intro hv;exact (ih (vW_tail hv)).cons (nb_t hw (by decide))
 case par w ws e v r hw h hv2 ih=>intro hv;exact ((ih (vW_tail hv)).trans ((Nt.refl r).cons (nb_t hv2 (by decide)))).cons (nb_t hw (by decide))
 case num w r hw=>intro hv;exact (Nt.refl r).cons (nb_num (vW_head hv) hw)
 case var w r hw _=>intro hv;exact (Nt.refl r).cons (nb_name (vW_head hv) hw)
 case call w v ws ks r hw hv2 h ih=>intro hv;exact ((ih (vW_tail (vW_tail hv))).cons (nb_t hv2 (by decide))).cons (nb_name (vW_head hv) hw)
 case up lv ws e ws' e' r hlv h1 h2 ih1 ih2=>intro hv;exact (ih1 hv).trans (ih2 ((ih1 hv).vW hv))
 case stop=>intro hv;exact Nt.refl _
 case step lv e w ws f ws' e' r ho h1 h2 ih1 ih2 =>
  intro hv
  have g:=ih1 (vW_tail hv)
  exact (g.trans (ih2 (g.vW (vW_tail hv)))).cons (nb_op ho)
 case done v r hv2=>intro hv;exact (Nt.refl r).cons (nb_t hv2 (by decide))
 case first ws e ws' ks r ht h1 h2 ih1 ih2=>intro hv;exact (ih1 hv).trans (ih2 ((ih1 hv).vW hv))
 case last acc v r hv2=>intro hv;exact (Nt.refl r).cons (nb_t hv2 (by decide))
 case more acc v ws e ws' ks r hv2 h1 h2 ih1 ih2 =>
  intro hv
  have g:=ih1 (vW_tail hv)
  exact (g.trans (ih2 (g.vW (vW_tail hv)))).cons (nb_t hv2 (by decide))
theorem rE_neut {ws r:List Word_} {e:Expr_} (h:rE ws=some (e,r)) (hv:vW ws):Nt ws r:=rd_neut (rE_some h) hv
theorem wT_neut {t:Str} {ws q:List Word_} (h:wT t ws=some q) (ht:t≠tOB∧t≠tCB∧t≠tFn):Nt ws q:=by
 unfold wT at h
 cases ws with
 | nil=>simp [isT] at h
 | cons w r =>
  split at h
  ·rename_i hw
   cases h
   exact (Nt.refl _).cons (nb_t (of_decide_eq_true hw) ht)
  ·cases h
theorem nT_neut {ws q:List Word_} {n:Str} (h:nT ws=some (n,q)) (hv:vW ws):Nt ws q:=by
 unfold nT at h
 cases ws with
 | nil=>cases h
 | cons w r =>
  dsimp only at h
  split at h
  ·rename_i hw
   cases h
   exact (Nt.refl _).cons (nb_name (vW_head hv) hw)
  ·cases h
theorem opK_nb {t:Str} (h:opK t≠0):t≠tOB∧t≠tCB∧t≠tFn:=by
 refine ⟨λe=>h ?_,λe=>h ?_,λe=>h ?_⟩<;>(rw [e];decide +kernel)
theorem headS_neut {ws q:List Word_} {op:Int} {n:Str} (h:headS ws=some (op,n,q)) (hv:vW ws):Nt ws q:=by
 unfold headS at h
 cases ws with
 | nil=>cases h
 | cons w r =>
  dsimp only at h
  split at h
  ·split at h
   ·rename_i hk
    obtain ⟨q',h1,h2⟩:=Option.map_eq_some_iff.1 h
    cases h2
    exact (wT_neut h1 (by decide)).cons (nb_name (vW_head hv) hk)
   ·cases h
  ·rename_i h0
   have hn:Nb w:=nb_t rfl (opK_nb h0)
   split at h
   ·obtain ⟨⟨p,q1⟩,h1,h2⟩:=Option.bind_eq_some_iff.1 h
    obtain ⟨q',h3,h4⟩:=Option.map_eq_some_iff.1 h2
    cases h4
    exact ((nT_neut h1 (vW_tail hv)).trans (wT_neut h3 (by decide))).cons hn
   ·cases h
    exact (Nt.refl _).cons hn
def bw (w:Word_):Int:=if w.text=tOB then 1 else if w.text=tCB then -1 else 0
def fw (w:Word_):Nat:=if w.text=tFn then 1 else 0
def bz (c:List Word_):Int:=(c.map bw).sum
def fz (c:List Word_):Nat:=(c.map fw).sum
theorem bz_app (a b:List Word_):bz (a++b)=bz a+bz b:=by simp [bz]
theorem fz_app (a b:List Word_):fz (a++b)=fz a+fz b:=by simp [fz]
theorem bz_cons (w:Word_) (b:List Word_):bz (w::b)=bw w+bz b:=by simp [bz]
theorem fz_cons (w:Word_) (b:List Word_):fz (w::b)=fw w+fz b:=by simp [fz]
theorem nb_w {w:Word_} (h:Nb w):bw w=0∧fw w=0:=by
 obtain ⟨h1,h2,h3⟩:=h
 unfold bw fw
 rw [if_neg h1,if_neg h2,if_neg h3]
 exact ⟨rfl,rfl⟩
theorem nt_z:∀ {c:List Word_},(∀ x∈c,Nb x)→bz c=0∧fz c=0
 | [],_=>⟨rfl,rfl⟩
 | w::c,h=>by
  obtain ⟨h1,h2⟩:=nt_z (c:=c) λx hx=>h x (by simp [hx])
  obtain ⟨h3,h4⟩:=nb_w (h w (by simp))
  rw [bz_cons,fz_cons]
  omega
def Zt (b:Int) (f:Nat) (ws r:List Word_):Prop:=∃ c,ws=c++r∧bz c=b∧fz c=f
theorem Nt.zt {a b:List Word_} (h:Nt a b):Zt 0 0 a b:=by
 obtain ⟨c,h1,h2⟩:=h
 exact ⟨c,h1,nt_z h2⟩
theorem Zt.trans {x y:Int} {f g:Nat} {a b c:List Word_} (h:Zt x f a b) (h':Zt y g b c):Zt (x+y) (f+g) a c:=by
 obtain ⟨u,rfl,h1,h2⟩:=h
 obtain ⟨v,rfl,h3,h4⟩:=h'
 exact ⟨u++v,by simp,by rw [bz_app,h1,h3],by rw [fz_app,h2,h4]⟩
theorem Zt.vW {x:Int} {f:Nat} {a b:List Word_} (h:Zt x f a b) (hv:Prg.vW a):Prg.vW b:=by
 obtain ⟨c,rfl,_⟩:=h
 exact λz hz=>hv z (List.mem_append_right _ hz)
def Zc (b:Int) (f:Nat) (ws r:List Word_):Prop:=∃ w,w.text=tCB∧Zt b f ws (w::r)
theorem Zc.zt {x:Int} {f:Nat} {a b:List Word_} (h:Zc x f a b):Zt (x - 1) f a b:=by
 obtain ⟨w,hw,c,h1,h2,h3⟩:=h
 have e1:bw w=-1:=by unfold bw;rw [hw,if_neg (by decide),if_pos rfl]
 have e2:fw w=0:=by unfold fw;rw [hw,if_neg (by decide)]
 exact ⟨c++[w],by rw [h1];simp,by rw [bz_app,h2,bz_cons,e1];simp [bz];omega,by rw [fz_app,h3,fz_cons,e2];simp [fz]⟩
theorem Zt.zc {x y:Int} {f g:Nat} {a b c:List Word_} (h:Zt x f a b) (h':Zc y g b c):Zc (x+y) (f+g) a c:=by
 obtain ⟨w,hw,h'⟩:=h'
 exact ⟨w,hw,h.trans h'⟩
theorem isT_cons {ws:List Word_} {t:Str} (h:isT ws t=true):∃ w,w.text=t∧ws=w::ws.tail:=by
 cases ws with
 | nil=>cases h
 | cons w r=>exact ⟨w,of_decide_eq_true h,rfl⟩
theorem pSK_z:∀ k:Nat,(∀ ws s r,pS k ws=some (s,r)→vW ws→Zt 0 0 ws r)∧(∀ ws b r,pK k ws=some (b,r)→vW ws→Zc 1 0 ws r)∧(∀ acc ws b r,pB k acc ws=some (b,r)→vW ws→Zc 0 0 ws r):=by
 intro k
 induction k with
 | zero=>exact ⟨λws s r h=>(by rw [pS] at h;cases h),λws s r h=>(by rw [pK] at h;cases h),λacc ws s r h=>(by rw [pB] at h;cases h)⟩
 | succ k ih =>
  obtain ⟨i1,i2,i3⟩:=ih
  refine ⟨λws s r h hv=>?_,λws b r h hv=>?_,λacc ws b r h hv=>?_⟩
  ·rw [pS] at h
   obtain ⟨⟨op,nm,q⟩,h1,h⟩:=Option.bind_eq_some_iff.1 h
   obtain ⟨⟨e,q2⟩,h2,h⟩:=Option.bind_eq_some_iff.1 h
   have s1:=headS_neut h1 hv
   have s2:=s1.trans (rE_neut h2 (s1.vW hv))
   have v2:=s2.vW hv
   dsimp only at h
   split at h
   ·obtain ⟨q3,h3,h⟩:=Option.bind_eq_some_iff.1 h
    obtain ⟨⟨e2,q4⟩,h4,h⟩:=Option.bind_eq_some_iff.1 h
    obtain ⟨q5,h5,h⟩:=Option.map_eq_some_iff.1 h
    cases h
    have s3:=s2.trans (wT_neut h3 (by decide))
    have s4:=s3.trans (rE_neut h4 (s3.vW hv))
    exact (s4.trans (wT_neut h5 (by decide))).zt
   ·split at h
    ·obtain ⟨⟨b,q3⟩,h3,h⟩:=Option.bind_eq_some_iff.1 h
     have s3:=s2.zt.trans (i2 _ _ _ h3 v2).zt
     dsimp only at h
     split at h
     ·rename_i ht
      obtain ⟨⟨c,q4⟩,h4,h⟩:=Option.map_eq_some_iff.1 h
      cases h
      obtain ⟨w,hw,he⟩:=isT_cons ht
      have s4:Zt 0 0 q3 q3.tail:=by
       have:Nt q3 q3.tail:=by
        rw [he]
        exact (Nt.refl _).cons (nb_t hw (by decide))
       exact this.zt
      have s5:=s3.trans s4
      exact s5.trans (i2 _ _ _ h4 (s5.vW hv)).zt
     ·cases h
      exact s3
    ·split at h
     ·obtain ⟨⟨b,q3⟩,h3,h⟩:=Option.map_eq_some_iff.1 h
      cases h
      exact s2.zt.trans (i2 _ _ _ h3 v2).zt
     ·obtain ⟨q3,h3,h⟩:=Option.map_eq_some_iff.1 h
      cases h
      exact (s2.trans (wT_neut h3 (by decide))).zt
  ·rw [pK] at h
   obtain ⟨q,h1,h⟩:=Option.bind_eq_some_iff.1 h
   have s1:Zt 1 0 ws q:=by
    unfold wT at h1
    split at h1
    ·rename_i ht
     obtain ⟨w,hw,he⟩:=isT_cons ht
     cases h1
     refine ⟨[w],he,?_,?_⟩
     ·rw [bz_cons];unfold bw;rw [hw,if_pos (show mkS [123]=tOB from rfl)];rfl
     ·rw [fz_cons];unfold fw;rw [hw,if_neg (by decide)];rfl
    ·cases h1
   exact s1.zc (i3 _ _ _ _ h (s1.vW hv))
  ·rw [pB] at h
   split at h
   ·rename_i ht
    cases h
    obtain ⟨w,hw,he⟩:=isT_cons ht
    exact ⟨w,hw,[],he,rfl,rfl⟩
   ·obtain ⟨⟨s,q⟩,h1,h⟩:=Option.bind_eq_some_iff.1 h
    have s1:=i1 _ _ _ h1 hv
    exact s1.zc (i3 _ _ _ _ h (s1.vW hv))
theorem pP_neut:∀ (k:Nat) (acc:List Str) (ws:List Word_) (ps:List Str) (r:List Word_),pP k acc ws=some (ps,r)→vW ws→Nt ws r
 | 0,acc,ws,ps,r,h,_=>by rw [pP] at h;cases h
 | k+1,acc,ws,ps,r,h,hv=>by
  rw [pP] at h
  split at h
  ·rename_i ht
   cases h
   obtain ⟨w,hw,he⟩:=isT_cons ht
   rw [he]
   exact (Nt.refl _).cons (nb_t hw (by decide))
  ·obtain ⟨⟨n,q⟩,h1,h⟩:=Option.bind_eq_some_iff.1 h
   obtain ⟨q2,h2,h3⟩:=Option.bind_eq_some_iff.1 h1
   have s1:Nt ws q2:=by
    split at h2
    ·cases h2;exact Nt.refl _
    ·exact wT_neut h2 (by decide)
   have s2:=s1.trans (nT_neut h3 (s1.vW hv))
   exact s2.trans (pP_neut k _ _ _ _ h (s2.vW hv))
theorem pF_z {k:Nat} {ws r:List Word_} {f:Fn_} (h:pF k ws=some (f,r)) (hv:vW ws):Zc 1 1 ws r:=by
 unfold pF at h
 obtain ⟨a,h1,h⟩:=Option.bind_eq_some_iff.1 h
 obtain ⟨⟨n,b⟩,h2,h⟩:=Option.bind_eq_some_iff.1 h
 obtain ⟨c,h3,h⟩:=Option.bind_eq_some_iff.1 h
 obtain ⟨⟨ps,d⟩,h4,h⟩:=Option.bind_eq_some_iff.1 h
 obtain ⟨⟨q,r'⟩,h5,h⟩:=Option.map_eq_some_iff.1 h
 cases h
 have s1:Zt 0 1 ws a:=by
  unfold wT at h1
  split at h1
  ·rename_i ht
   obtain ⟨w,hw,he⟩:=isT_cons ht
   cases h1
   refine ⟨[w],he,?_,?_⟩
   ·rw [bz_cons];unfold bw;rw [hw,if_neg (by decide),if_neg (by decide)];rfl
   ·rw [fz_cons];unfold fw;rw [hw,if_pos rfl];rfl
  ·cases h1
 have s2:=s1.trans (nT_neut h2 (s1.vW hv)).zt
 have s3:=s2.trans (wT_neut h3 (by decide)).zt
 have s4:=s3.trans (pP_neut _ _ _ _ _ h4 (s3.vW hv)).zt
 exact s4.zc ((pSK_z k).2.1 _ _ _ h5 (s4.vW hv))
theorem pG_z {k0:Nat}:∀ (k:Nat) (acc:List Fn_) (ws:List Word_) (fns:List Fn_),pG k0 k acc ws=some fns→vW ws→fns.length=acc.length+fz ws∧bz ws=0∧(ws=[]∨Zc 1 (fz ws) ws [])
 | 0,acc,ws,fns,h,_=>by rw [pG] at h;cases h
 | k+1,acc,ws,fns,h,hv=>by
  rw [pG] at h
  split at h
  ·rename_i h0
   cases h
   subst h0
   exact ⟨rfl,rfl,.inl rfl⟩
  ·obtain ⟨⟨f,q⟩,h1,h⟩:=Option.bind_eq_some_iff.1 h
   dsimp only at h
   have s1:=pF_z h1 hv
   obtain ⟨g1,g2,g3⟩:=pG_z k _ _ _ h (s1.zt.vW hv)
   obtain ⟨c,c1,c2,c3⟩:=s1.zt
   have e1:fz ws=1+fz q:=by rw [c1,fz_app,c3]
   have e2:bz ws=0+bz q:=by rw [c1,bz_app,c2];omega
   refine ⟨by rw [g1,e1];simp;omega,by omega,.inr ?_⟩
   rcases g3 with rfl | g3
   ·rw [e1];exact s1
   ·rw [e1]
    have:=s1.zt.zc g3
    rw [show (1:Int) - 1+1=1 by omega] at this
    exact this
theorem cut_no {ws:List Word_} {p:Program_} (hv:vW ws) (h:rdG ws=some p.fns) (hp:progB p=true):p.fns.length=fz ws∧ws≠[]∧rdG (ws.take (ws.length - 1))=none:=by
 obtain ⟨h1,h2,h3⟩:=pG_z 1001 [] ws p.fns h hv
 obtain ⟨n1,_,_⟩:=progB_iff hp
 have h1:p.fns.length=fz ws:=by rw [h1];simp
 rcases h3 with rfl | ⟨w,hw,c,c1,c2,c3⟩
 ·exact absurd h1 (by show ¬ p.fns.length=0;omega)
 ·refine ⟨h1, by rw [c1]; simp, ?_⟩
  have e:ws.take (ws.length - 1)=c:=by rw [c1];simp
  rw [e]
  cases hq:rdG c with
  | none=>rfl
  | some fns =>
   have:=(pG_z 1001 [] c fns hq λx hx=>hv x (by rw [c1];simp [hx])).2.1
   omega
theorem fz_loop (ws:List Word_) (hl:ws.length≤1000):forN (S:=Int) (X:=Empty) (λi1_1 xs1_1=>Option.bind (Option.bind (getI ws i1_1) λx2_1=>Option.bind (if decide (x2_1.text=(mkS [102,110])) then some (w64 (xs1_1+1)) else some xs1_1:Option (Int)) λs2_1=>some s2_1:Option (Int)) λs1_1=>some (.inl s1_1)) ((ws.length:Int) - 0).toNat 0 0=some (.inl (fz ws:Int)):=by
 have hle:∀ l:List Word_,fz l≤l.length:=by
  intro l
  induction l with
  | nil=>exact Nat.le_refl _
  | cons w l ih =>
   rw [fz_cons]
   have:fw w≤1:=by unfold fw;split<;>omega
   simp only [List.length_cons]
   omega
 rcases forN_list (xs := ws) (body := fun i1_1 xs1_1 => Option.bind (Option.bind (getI ws i1_1) fun x2_1 => Option.bind (if decide (x2_1.text = (mkS [102, 110])) then some (w64 (xs1_1 + 1)) else some xs1_1 : Option (Int)) fun s2_1 => some s2_1 : Option (Int)) fun s1_1 => some (.inl s1_1)) (s := (0 : Int)) (fun l s => s = (fz l : Int)) (fun _ : Empty => False) rfl (fun l x r s hx hI => .inl (by
  subst hI
  have hg:getI ws (l.length:Int)=some x:=by rw [hx,getI_mid]
  have hl2:=hle l
  have hll:l.length≤1000:=by rw [hx] at hl;simp at hl;omega
  rw [fz_app,fz_cons]
  by_cases hc:x.text=mkS [102,110]
  ·have : fw x = 1 := by unfold fw; rw [if_pos (show x.text = tFn from hc)]
   refine ⟨w64 ((fz l:Int)+1),bindt (bindt hg (by rw [decide_eq_true hc,if_pos rfl];rfl)) rfl,?_⟩
   rw [this,w64_id (by omega) (by omega)]
   show (fz l:Int)+1=((fz l+(1+0):Nat):Int)
   omega
  ·have : fw x = 0 := by unfold fw; rw [if_neg (show ¬ x.text = tFn from hc)]
   refine ⟨(fz l:Int),bindt (bindt hg (by rw [decide_eq_false hc,if_neg Bool.false_ne_true];rfl)) rfl,?_⟩
   rw [this]
   rfl)) with ⟨s,h1,h2⟩ | ⟨x,_⟩
 ·rw [h1,h2]
 ·exact x.elim
theorem law_cutShort (code:List UInt8):laws_FnCutShort code=some true:=by
 unfold laws_FnCutShort
 by_cases hb:1048576<(code.length:Int)
 ·rw [if_pos (decide_eq_true hb)]
 rw [if_neg (by simpa using hb)]
 obtain ⟨s,hs⟩:=drawProg_ok code
 obtain ⟨p,ok,r1,r2,h⟩:=readProgram_ok s
 refine bindt hs (bindt r2 (bindt r1 ?_))
 dsimp only
 have e0:decide (ok≠ok)=false:=by simp
 have e1:decide (ok=ok)=true:=by simp
 rw [e0,if_neg Bool.false_ne_true]
 rcases h with ⟨rfl,hp,ws,hc,hr⟩ | ⟨rfl,rfl⟩
 ·refine bindt (a:=false) (bindt (specP_self hp) rfl) ?_
  rw [if_neg Bool.false_ne_true]
  obtain ⟨hv,hl⟩:=cutR_valid hc
  obtain ⟨g1,g2,g3⟩:=cut_no hv hr hp
  have hlen:=List.length_pos_iff.2 g2
  refine bindt (cutWords_ok s) ?_
  rw [cutV_some hc]
  dsimp only
  have hsub:subM ws 0 ((ws.length:Int) - 1)=some (ws.take (ws.length - 1)):=by
   refine subM_some.2 ⟨⟨by omega,by omega,by omega⟩,?_⟩
   rw [show ((ws.length:Int) - 1).toNat=ws.length - 1 by omega]
   simp
  have hv2:vW (ws.take (ws.length - 1)):=λx hx=>hv x (List.mem_of_mem_take hx)
  have hl2:(ws.take (ws.length - 1)).length≤600:=by simp;omega
  have ht:=txt_len _ hv2
  have hj:=join_ok _ hv2
  unfold joinV at hj
  rw [if_pos ⟨hl2,by omega⟩] at hj
  have hcut:=cut_txt hv2 hl2 (by omega)
  have hread:=readP_some hcut
  rw [g3] at hread
  refine bindt hsub (bindt hj (bindt hread.2 ?_))
  refine bindt (fz_loop ws (by omega)) ?_
  rw [Sum.elim_inl]
  refine bindt (a:=true) ?_ rfl
  rw [g1]
  simp
 ·have hself : spec_SamePrograms noP noP = some true := by unfold spec_SamePrograms; rfl
  refine bindt (a:=true) (bindt hself rfl) ?_
  rw [if_pos rfl,e1,if_pos rfl]
  exact bindt (bindt hself rfl) rfl
end Prg
end Go.Wk
