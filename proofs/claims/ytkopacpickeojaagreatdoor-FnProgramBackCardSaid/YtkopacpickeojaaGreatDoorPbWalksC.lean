/- A part of the proof of FnProgramBackCardSaid. -/
import Derived.Test.YtkopacpickeojaaGreatDoorPbWalksB
namespace Go.Proofs.YtkopacpickeojaaGreatDoor
open Go Go.Wk Go.RowKit
set_option maxRecDepth 4000
set_option maxHeartbeats 4000000
open Tryz
theorem x8  : (∀ (list:List kN) (nest:Int) (r:Bool),nE list nest=some r→∀ (w0:World) (v1:Value) (h1:GT.rep (hp w0) [v1] list) (hG0:GT.rep (hp w0) [.slice (some ⟨0,0,none⟩) 9 9] k7) (hG1:GT.rep (hp w0) [.slice (some ⟨1,0,none⟩) 1 1] [kO]),Con Tryz.prog 36 [v1,nV nest] w0 (λv w'=>v=(.bool (r))∧Below w0.heap.size w0 w')) ∧
    (∀ (s_:kN) (c0_:Int) (r:Bool),rQ s_ c0_=some r→∀ (w0:World) (v1:Value) (h1:GT.rep (hp w0) [v1] s_.args) (v2:Value) (h2:GT.rep (hp w0) [v2] s_.body) (v3:Value) (h3:GT.rep (hp w0) [v3] s_.else_) (bf0:Nat) (hbf0:w0.heap[bf0]?=some (.cells ([nV c0_]:List Value).toArray 3 (0,0))) (hG0:GT.rep (hp w0) [.slice (some ⟨0,0,none⟩) 9 9] k7) (hG1:GT.rep (hp w0) [.slice (some ⟨1,0,none⟩) 1 1] [kO]),Con Tryz.prog 72 [(.agg #[nV s_.op,(tV s_.name),v1,v2,v3]),(pV bf0)] w0 (λv w'=>v=(.bool (r))∧Below w0.heap.size w0 w')) ∧
    (∀ (s_:kN) (nest:Int) (r:Bool),rK s_ nest=some r→∀ (w0:World) (v1:Value) (h1:GT.rep (hp w0) [v1] s_.args) (v2:Value) (h2:GT.rep (hp w0) [v2] s_.body) (v3:Value) (h3:GT.rep (hp w0) [v3] s_.else_) (hG0:GT.rep (hp w0) [.slice (some ⟨0,0,none⟩) 9 9] k7) (hG1:GT.rep (hp w0) [.slice (some ⟨1,0,none⟩) 1 1] [kO]),Con Tryz.prog 73 [(.agg #[nV s_.op,(tV s_.name),v1,v2,v3]),nV nest] w0 (λv w'=>v=(.bool (r))∧Below w0.heap.size w0 w')):=by
  refine nE.mutual_partial_correctness  (motive_1:=λlist nest r=>∀ (w0:World) (v1:Value) (h1:GT.rep (hp w0) [v1] list) (hG0:GT.rep (hp w0) [.slice (some ⟨0,0,none⟩) 9 9] k7) (hG1:GT.rep (hp w0) [.slice (some ⟨1,0,none⟩) 1 1] [kO]),Con Tryz.prog 36 [v1,nV nest] w0 (λv w'=>v=(.bool (r))∧Below w0.heap.size w0 w')) (motive_2:=λs_ c0_ r=>∀ (w0:World) (v1:Value) (h1:GT.rep (hp w0) [v1] s_.args) (v2:Value) (h2:GT.rep (hp w0) [v2] s_.body) (v3:Value) (h3:GT.rep (hp w0) [v3] s_.else_) (bf0:Nat) (hbf0:w0.heap[bf0]?=some (.cells ([nV c0_]:List Value).toArray 3 (0,0))) (hG0:GT.rep (hp w0) [.slice (some ⟨0,0,none⟩) 9 9] k7) (hG1:GT.rep (hp w0) [.slice (some ⟨1,0,none⟩) 1 1] [kO]),Con Tryz.prog 72 [(.agg #[nV s_.op,(tV s_.name),v1,v2,v3]),(pV bf0)] w0 (λv w'=>v=(.bool (r))∧Below w0.heap.size w0 w')) (motive_3:=λs_ nest r=>∀ (w0:World) (v1:Value) (h1:GT.rep (hp w0) [v1] s_.args) (v2:Value) (h2:GT.rep (hp w0) [v2] s_.body) (v3:Value) (h3:GT.rep (hp w0) [v3] s_.else_) (hG0:GT.rep (hp w0) [.slice (some ⟨0,0,none⟩) 9 9] k7) (hG1:GT.rep (hp w0) [.slice (some ⟨1,0,none⟩) 1 1] [kO]),Con Tryz.prog 73 [(.agg #[nV s_.op,(tV s_.name),v1,v2,v3]),nV nest] w0 (λv w'=>v=(.bool (r))∧Below w0.heap.size w0 w')) ?_ ?_ ?_
  · intro rec_ ih_ list nest r hq w0 v1 h1 hG0 hG1
    have impl_blockOk_1_rec:∀ (w0:World) (s_:kN) (v1:Value) (h1:GT.rep (hp w0) [v1] s_.args) (v2:Value) (h2:GT.rep (hp w0) [v2] s_.body) (v3:Value) (h3:GT.rep (hp w0) [v3] s_.else_) (c0_:Int) (bf0:Nat) (hbf0:w0.heap[bf0]?=some (.cells ([nV c0_]:List Value).toArray 3 (0,0))) (hG0:GT.rep (hp w0) [.slice (some ⟨0,0,none⟩) 9 9] k7) (hG1:GT.rep (hp w0) [.slice (some ⟨1,0,none⟩) 1 1] [kO]) (r:Bool) (hq:rec_ s_ c0_=some r),Con Tryz.prog 72 [(.agg #[nV s_.op,(tV s_.name),v1,v2,v3]),(pV bf0)] w0 (λv w'=>v=(.bool (r))∧Below w0.heap.size w0 w'):=λw0 s_ v1 h1 v2 h2 v3 h3 c0_ bf0 hbf0 hG0 hG1 r hq=>ih_ s_ c0_ r hq w0 v1 h1 v2 h2 v3 h3 bf0 hbf0 hG0 hG1
    refine pO (ρ:=Bool) (R:=λr v w'=>v=(.bool (r))∧Below w0.heap.size w0 w') func36 rfl hq ?_
    have hm:=Mem.start w0
    exact gS (gR (gBx hm rfl λaA w hm=>gA rfl (gE (gS (gR (gM rfl (gY (yU rfl) (gC hm rfl call71 (pX _ list v1 (hm.now h1) (λy0=>rec_ y0 nest) (.func (.func 72) #[] #[(pV aA)]) (λw y0 aZ a8 aa ab ac ae r hB hq=>⟨72,[(pV aA)],rfl,call72,impl_blockOk_1_rec w y0 aZ a8 aa ab ac ae nest aA (hm.blk_later 0 rfl hB) (yK (hm.now hG0) hB) (yK (hm.now hG1) hB) r hq⟩)) λaD aT w hm=>gN rfl (gA rfl (gE (gRt (gr1 results36 rfl ⟨rfl,hm.below⟩))))))))))))
  · intro rec_ ih_ s_ c0_ r hq w0 v1 h1 v2 h2 v3 h3 bf0 hbf0 hG0 hG1
    have impl_stmtOk_rec:∀ (w0:World) (s_:kN) (v1:Value) (h1:GT.rep (hp w0) [v1] s_.args) (v2:Value) (h2:GT.rep (hp w0) [v2] s_.body) (v3:Value) (h3:GT.rep (hp w0) [v3] s_.else_) (nest:Int) (hG0:GT.rep (hp w0) [.slice (some ⟨0,0,none⟩) 9 9] k7) (hG1:GT.rep (hp w0) [.slice (some ⟨1,0,none⟩) 1 1] [kO]) (r:Bool) (hq:rec_ s_ nest=some r),Con Tryz.prog 73 [(.agg #[nV s_.op,(tV s_.name),v1,v2,v3]),nV nest] w0 (λv w'=>v=(.bool (r))∧Below w0.heap.size w0 w'):=λw0 s_ v1 h1 v2 h2 v3 h3 nest hG0 hG1 r hq=>ih_ s_ nest r hq w0 v1 h1 v2 h2 v3 h3 hG0 hG1
    refine pO (ρ:=Bool) (R:=λr v w'=>v=(.bool (r))∧Below w0.heap.size w0 w') func72 rfl hq ?_
    have hm:=Mem.start w0
    exact gS (gR (gBx hm rfl λaA w hm=>gA rfl (gE (gS (gR (gY (yn (hm.blk_at 0 rfl) isAgg61 sizeOf61 rfl) (gY (yl isAgg3 (hm.old_cell hbf0 rfl) rfl) (gC hm rfl call73 (impl_stmtOk_rec _ s_ v1 (hm.now h1) v2 (hm.now h2) v3 (hm.now h3) c0_ (hm.now hG0) (hm.now hG1)) λaD aT w hm=>gN rfl (gA rfl (gE (gRt (gr1 results72 rfl ⟨rfl,hm.below⟩))))))))))))
  · intro rec_ ih_ s_ nest r hq w0 v1 h1 v2 h2 v3 h3 hG0 hG1
    have impl_blockOk_rec:∀ (w0:World) (list:List kN) (v1:Value) (h1:GT.rep (hp w0) [v1] list) (nest:Int) (hG0:GT.rep (hp w0) [.slice (some ⟨0,0,none⟩) 9 9] k7) (hG1:GT.rep (hp w0) [.slice (some ⟨1,0,none⟩) 1 1] [kO]) (r:Bool) (hq:rec_ list nest=some r),Con Tryz.prog 36 [v1,nV nest] w0 (λv w'=>v=(.bool (r))∧Below w0.heap.size w0 w'):=λw0 list v1 h1 nest hG0 hG1 r hq=>ih_ list nest r hq w0 v1 h1 hG0 hG1
    refine pO (ρ:=Bool) (R:=λr v w'=>v=(.bool (r))∧Below w0.heap.size w0 w') func73 rfl hq ?_
    have hm:=Mem.start w0
    refine gS (gR (gBx hm rfl λaA w hm=>gA rfl (gE (gS (gR (gF oT rfl (gL hm 0 isAgg3 rfl (gC hm rfl call106 (yD _ s_.op) λaD aT w hm=>gM rfl (gX rfl (gX rfl (gX rfl (gX rfl (gA rfl (gA rfl (gA rfl (gA rfl (gE (gS (gBk (gS (gS (gR (gM rfl (gB rfl (gA rfl (gE (gJ hm (λaE=>[(1,(nV nest)),(2,(pV aA)),(19,(.bool (aE)))]) (λaE=>[blk aA [nV s_.op,(tV s_.name),v1,v2,v3] 61]) (λaE=>?_) ?_)))))))))))))))))))))))))))
    ·refine gsd 19 rfl (λaf=>?_) λaf=>?_
     ·exact gct rfl (gSk (gz hm [0] rfl))
     refine gcf rfl (gS (gR (gF ov rfl (gL hm 0 isAgg59 rfl ?_))))
     obtain ⟨aB,aC,rfl,bE⟩:=kT h1
     refine gY (yV nL rfl) (gM rfl (gB rfl (gA rfl (gE (gJ hm (λaF=>[(1,(nV nest)),(2,(pV aA)),(19,(.bool (aF)))]) (λaF=>[blk aA [nV s_.op,(tV s_.name),.slice aB s_.args.length aC,v2,v3] 61]) (λaF=>?_) ?_)))))
     ·refine gsd 19 rfl (λag=>?_) λag=>?_
      ·exact gct rfl (gSk (gz hm [0] rfl))
      refine gcf rfl (gS (gJ hm (λaG=>[(1,(nV nest)),(2,(pV aA)),(6,(.bool (aD.2.1))),(7,(.bool (aD.2.2.1))),(8,(.bool (aD.2.2.2))),(19,(.bool (aG)))]) (λaG=>[blk aA [nV s_.op,(tV s_.name),.slice aB s_.args.length aC,v2,v3] 61]) (λaG=>?_) ?_))
      ·refine gR (gM rfl (gM rfl (gs 28 rfl (λah=>?_) λah=>?_)))
       ·exact gF qd rfl (gL hm 0 isAgg9 rfl (gC hm rfl call33 (pY _ s_.name (hm.now hG0)) λbF bG w hm=>gN rfl (gKt rfl (gA rfl (gE (gz hm [0] rfl))))))
       exact gO rfl (gO rfl (gO rfl (gO rfl (gKf rfl (gA rfl (gE (gz hm [0] rfl)))))))
      repeat clear hm
      intro aG w hm
      refine gJ hm (λaH=>[(1,(nV nest)),(2,(pV aA)),(19,(.bool (aH)))]) (λaH=>[blk aA [nV s_.op,(tV s_.name),.slice aB s_.args.length aC,v2,v3] 61]) (λaH=>?_) ?_
      ·refine gs 19 rfl (λai=>?_) λai=>?_
       ·exact gct rfl (gSk (gz hm [0] rfl))
       refine gcf rfl (gS (gJ hm (λaI=>[(1,(nV nest)),(2,(pV aA)),(7,(.bool (aD.2.2.1))),(8,(.bool (aD.2.2.2))),(19,(.bool (aI)))]) (λaI=>[blk aA [nV s_.op,(tV s_.name),.slice aB s_.args.length aC,v2,v3] 61]) (λaI=>?_) ?_))
       ·refine gR (gM rfl (gN rfl (gM rfl (gsn 36 rfl (λaj=>?_) λaj=>?_))))
        ·exact gF qd rfl (gL hm 0 isAgg9 rfl (gY (yG rfl (vp (p:=s_.name) (q:=(mkS [])) rfl rfl rfl)) (gKt rfl (gA rfl (gE (gz hm [0] rfl))))))
        exact gO rfl (gO rfl (gO rfl (gKf rfl (gA rfl (gE (gz hm [0] rfl))))))
       repeat clear hm
       intro aI w hm
       refine gJ hm (λaJ=>[(1,(nV nest)),(2,(pV aA)),(19,(.bool (aJ)))]) (λaJ=>[blk aA [nV s_.op,(tV s_.name),.slice aB s_.args.length aC,v2,v3] 61]) (λaJ=>?_) ?_
       ·refine gs 19 rfl (λak=>?_) λak=>?_
        ·exact gct rfl (gSk (gz hm [0] rfl))
        refine gcf rfl (gS (gJ hm (λaK=>[(1,(nV nest)),(2,(pV aA)),(8,(.bool (aD.2.2.2))),(19,(.bool (aK)))]) (λaK=>[blk aA [nV s_.op,(tV s_.name),.slice aB s_.args.length aC,v2,v3] 61]) (λaK=>?_) ?_))
        ·refine gR (gM rfl (gN rfl (gM rfl (gsn 43 rfl (λal=>?_) λal=>?_))))
         ·refine gF qf rfl (gL hm 0 isAgg43 rfl ?_)
          obtain ⟨bH,bJ,rfl,bK⟩:=kT h2
          exact gY (yV pI rfl) (gB rfl (gKt rfl (gA rfl (gE (gz hm [0] rfl)))))
         exact gO rfl (gO rfl (gO rfl (gO rfl (gKf rfl (gA rfl (gE (gz hm [0] rfl)))))))
        repeat clear hm
        intro aK w hm
        refine gJ hm (λaL=>[(1,(nV nest)),(2,(pV aA)),(19,(.bool (aL)))]) (λaL=>[blk aA [nV s_.op,(tV s_.name),.slice aB s_.args.length aC,v2,v3] 61]) (λaL=>?_) ?_
        ·refine gs 19 rfl (λam=>?_) λam=>?_
         ·exact gct rfl (gSk (gz hm [0] rfl))
         refine gcf rfl (gS (gJ hm (λaM=>[(1,(nV nest)),(2,(pV aA)),(19,(.bool (aM)))]) (λaM=>[blk aA [nV s_.op,(tV s_.name),.slice aB s_.args.length aC,v2,v3] 61]) (λaM=>?_) ?_))
         ·refine gR (gM rfl (gN rfl (gM rfl (gsn 51 rfl (λan=>?_) λan=>?_))))
          ·refine gF qJ rfl (gL hm 0 isAgg43 rfl ?_)
           obtain ⟨bL,bM,rfl,bN⟩:=kT h3
           exact gY (yV pI rfl) (gB rfl (gKt rfl (gA rfl (gE (gz hm [0] rfl)))))
          exact gO rfl (gO rfl (gO rfl (gO rfl (gKf rfl (gA rfl (gE (gz hm [0] rfl)))))))
         repeat clear hm
         intro aM w hm
         refine gJ hm (λaN=>[(1,(nV nest)),(2,(pV aA)),(19,(.bool (aN)))]) (λaN=>[blk aA [nV s_.op,(tV s_.name),.slice aB s_.args.length aC,v2,v3] 61]) (λaN=>?_) ?_
         ·refine gs 19 rfl (λao=>?_) λao=>?_
          ·exact gct rfl (gSk (gz hm [0] rfl))
          refine gcf rfl (gJ hm (λaO=>[(1,(nV nest)),(2,(pV aA)),(19,(.bool (aO)))]) (λaO=>[blk aA [nV s_.op,(tV s_.name),.slice aB s_.args.length aC,v2,v3] 61]) (λaO=>?_) ?_)
          ·refine gR (gF oT rfl (gL hm 0 isAgg3 rfl (gB rfl (gM rfl (gsd 60 rfl (λaq=>?_) λaq=>?_)))))
           ·refine gF ov rfl (gL hm 0 isAgg59 rfl (gg λbO ar aQ=>?_))
            obtain ⟨bP,bQ,bR,he⟩:=lU h1 aQ
            obtain ⟨rfl,_,rfl⟩:=sl3 he
            obtain ⟨bS,au,bT⟩:=n0 h1 aQ
            exact gI nL ar (lO aQ) rfl (gF mP rfl (gY (yl isAgg3 ((au.mono hm.lez).cell (j:=0) rfl) rfl) (gB rfl (gKt rfl (gA rfl (gE (gz hm [0] rfl)))))))
           exact gO rfl (gO rfl (gO rfl (gO rfl (gO rfl (gO rfl (gKf rfl (gA rfl (gE (gz hm [0] rfl)))))))))
          repeat clear hm
          intro aO w hm
          exact gz hm [0] rfl
         repeat clear hm
         intro aN w hm
         exact gz hm [0] rfl
        repeat clear hm
        intro aL w hm
        exact gz hm [0] rfl
       repeat clear hm
       intro aJ w hm
       exact gz hm [0] rfl
      repeat clear hm
      intro aH w hm
      exact gz hm [0] rfl
     repeat clear hm
     intro aF w hm
     exact gz hm [0] rfl
    repeat clear hm
    intro aE w hm
    refine gs 19 rfl (λav=>?_) λav=>?_
    ·exact gct rfl (gS (gR (gA rfl (gE (gRt (gr1 results73 rfl ⟨rfl,hm.below⟩))))))
    refine gcf rfl (gSk (gS (gS (gR (gF ov rfl (gL hm 0 isAgg59 rfl ?_))))))
    obtain ⟨aU,aV,rfl,bU⟩:=kT h1
    refine gY (yV nL rfl) (gM rfl (gE (gBk (gNf hm (λaR aX=>[(1,(nV nest)),(2,(pV aA)),(69,(.slice aU s_.args.length aV)),(70,(nV ((s_.args.length:Int)))),(71,(nV aR))]) (λaR aX=>[blk aA [nV s_.op,(tV s_.name),.slice aU s_.args.length aV,v2,v3] 61]) [0] rfl ?_ ?_))))
    ·repeat clear hm
     intro bV aw aR aX w hm bW bX bY ax
     refine gS (gR (gB rfl (gE (gS (go _ 72 rfl (decide_eq_true (by omega)) (gct rfl (gSk (gS (gBk (gS (gR (gg λay az aS=>?_))))))))))))
     obtain ⟨bZ,b8,b9,he⟩:=lU h1 aS
     obtain ⟨rfl,_,rfl⟩:=sl3 he
     obtain ⟨bA,bB,aY⟩:=n0 h1 aS
     refine gI nL az (lO aS) rfl (gY (yn (bB.mono hm.lez) isAgg80 sizeOf80 rfl) (gAl hm zeroValue80 rfl λba w hm=>gSN hm 0 sizeOf80 (kL rfl (kL rfl (kL rfl (kL (ki aY) ke)))) rfl λw hm=>gE (gS (gR (gY (yn (hm.blk_at 0 rfl) isAgg80 sizeOf80 rfl) (gC hm rfl call107 (xI _ ay bA (hm.now aY) (hm.now hG0) (hm.now hG1)) λbb bc w hm=>gN rfl (gE (gsn 77 rfl (λbC=>?_) λbC=>?_))))))))
     ·exact gct rfl (gS (gR (gA rfl (gE (gRt (gLr ax aw (gr1 results73 rfl ⟨rfl,hm.below⟩)))))))
     exact gcf rfl (gSk (gR (gP (by omega) (by omega) rfl (gM rfl (gE (gze hm [1] rfl))))))
    repeat clear hm
    intro bd be w hm bf bg
    refine gS (gR (gB rfl (gE (gS (go _ 72 rfl (decide_eq_false (by omega)) (gcf rfl (gXt (gHh (gS (gJ hm (λaP=>[(4,(.bool (aP)))]) (λaP=>[]) (λaP=>?_) ?_))))))))))
    ·refine gR (gF qf rfl (gL hm 0 isAgg43 rfl (gM rfl (gB rfl (gC hm rfl call36 (impl_blockOk_rec _ s_.body v2 (hm.now h2) (w64 (nest+1)) (hm.now hG0) (hm.now hG1)) λbh bi w hm=>gM rfl (gs 84 rfl (λbD=>?_) λbD=>?_))))))
     ·exact gF qJ rfl (gL hm 0 isAgg43 rfl (gM rfl (gB rfl (gC hm rfl call36 (impl_blockOk_rec _ s_.else_ v3 (hm.now h3) (w64 (nest+1)) (hm.now hG0) (hm.now hG1)) λbj bk w hm=>gKt rfl (gA rfl (gE (gz hm [] rfl)))))))
     exact gO rfl (gO rfl (gO rfl (gO rfl (gO rfl (gKf rfl (gA rfl (gE (gz hm [] rfl))))))))
    repeat clear hm
    intro aP w hm
    exact gRt (gr1 results73 rfl ⟨rfl,hm.below⟩)
theorem yt (w0:World) (list:List kN) (v1:Value) (h1:GT.rep (hp w0) [v1] list) (nest:Int) (hG0:GT.rep (hp w0) [.slice (some ⟨0,0,none⟩) 9 9] k7) (hG1:GT.rep (hp w0) [.slice (some ⟨1,0,none⟩) 1 1] [kO]) (r:Bool) (hq:nE list nest=some r):Con Tryz.prog 36 [v1,nV nest] w0 (λv w'=>v=(.bool (r))∧Below w0.heap.size w0 w'):=(x8 ).1 list nest r hq w0 v1 h1 hG0 hG1
theorem wg (w0:World) (hz:kX) (p0:kN) (v1:Value) (h1:GT.rep hz [v1] p0.args) (v2:Value) (h2:GT.rep hz [v2] p0.body) (v3:Value) (h3:GT.rep hz [v3] p0.else_) (nest:Int) (c0_:Int) (bpc0:Nat) (c1_:Int) (bpc1:Nat) (hm0:Mem w0 hz w0 [blk bpc0 [nV c0_] 3,blk bpc1 [nV c1_] 3]) :
    mE Tryz.prog 75 [(.agg #[nV p0.op,(tV p0.name),v1,v2,v3]),nV nest,(pV bpc0),(pV bpc1)] w0 (ur p0 nest c0_ c1_) λr v w'=>v=(.tuple #[])∧Mem w0 hz w' [blk bpc0 [nV r.1] 3,blk bpc1 [nV r.2] 3]:=by
  unfold ur
  refine mR func75 rfl λr=>?_
  have hm:=hm0
  exact gS (gR (gBx hm rfl λaA w hm=>gE (gS (gR (gL hm 1 isAgg3 rfl (gB rfl (gS1 hm 1 sizeOf3 rfl rfl λw hm=>gE (gR (gL hm 2 isAgg3 rfl (gM rfl (gY (yG rfl (bt5 rfl rfl rfl)) (gS1 hm 2 sizeOf3 rfl rfl λw hm=>gE (gre results75 ⟨rfl,hm.pk [1,2] rfl rfl⟩)))))))))))))
theorem aa0:∀ (list:List kN) (nest:Int) (s0 r:Int × Int),oq list nest s0=some r→∀ (w0:World) (hz:kX) (v1:Value) (h1:GT.rep hz [v1] list) (bpc0 bpc1:Nat) (hm0:Mem w0 hz w0 [blk bpc0 [nV s0.1] 3,blk bpc1 [nV s0.2] 3]),Con Tryz.prog 74 [v1,nV nest,.func (.func 75) #[] #[(pV bpc0),(pV bpc1)]] w0 (λv w'=>v=(.tuple #[])∧Mem w0 hz w' [blk bpc0 [nV r.1] 3,blk bpc1 [nV r.2] 3]):=by
  refine oq.partial_correctness (motive:=λlist nest s0 r=>∀ (w0:World) (hz:kX) (v1:Value) (h1:GT.rep hz [v1] list) (bpc0 bpc1:Nat) (hm0:Mem w0 hz w0 [blk bpc0 [nV s0.1] 3,blk bpc1 [nV s0.2] 3]),Con Tryz.prog 74 [v1,nV nest,.func (.func 75) #[] #[(pV bpc0),(pV bpc1)]] w0 (λv w'=>v=(.tuple #[])∧Mem w0 hz w' [blk bpc0 [nV r.1] 3,blk bpc1 [nV r.2] 3])) ?_
  intro rec_ ih_ list nest s0 r hq w0 hz v1 h1 bpc0 bpc1 hm0
  refine pO (ρ:=Int × Int) (R:=λr v w'=>v=(.tuple #[])∧Mem w0 hz w' [blk bpc0 [nV r.1] 3,blk bpc1 [nV r.2] 3]) func74 rfl hq ?_
  have hm:=hm0
  refine gS (gR (gM rfl ?_))
  obtain ⟨aL,aM,rfl,aU⟩:=kT h1
  refine gY (yV pI rfl) (gM rfl (gE (gBk (gNf hm (λaB aA=>[(1,(nV nest)),(2,.func (.func 75) #[] #[(pV bpc0),(pV bpc1)]),(8,(.slice aL list.length aM)),(9,(nV ((list.length:Int)))),(10,(nV aB))]) (λaB aA=>[blk bpc0 [nV aA.1] 3,blk bpc1 [nV aA.2] 3]) [0,1] rfl ?_ ?_))))
  ·repeat clear hm
   intro _ _ aB aA w hm aV aX aY _
   refine gS (gR (gB rfl (gE (gS (go _ 11 rfl (decide_eq_true (by omega)) (gct rfl (gSk (gS (gBk (gS (gR (gg λaN aO aC=>?_))))))))))))
   obtain ⟨aZ,a8,aa,he⟩:=lU h1 aC
   obtain ⟨rfl,_,rfl⟩:=sl3 he
   obtain ⟨aP,aF,aG,aQ,aH,aD,aE⟩:=rv h1 aC
   refine gI pI aO (lO aC) rfl (gY (yn (aQ.mono hm.lez) isAgg61 sizeOf61 rfl) (gAl hm zeroValue61 rfl λab w hm=>gSN hm 0 sizeOf61 (kL rfl (kL rfl (kL (ki aH) (kL (ki aD) (kL (ki aE) ke))))) rfl λw hm=>gE (gS (gR (gM rfl (gY (yn (hm.blk_at 0 rfl) isAgg61 sizeOf61 rfl) (gM rfl ?_)))))))
   obtain ⟨aR,hle1,hm1,hsub,aI⟩:=hm.take2 (L1:=[_,_]) (L2:=[_]) [1,2] [0] (by decide) rfl rfl
   refine gf rfl (λa hf=>tn hf rfl rfl rfl ⟨75,[(pV bpc0),(pV bpc1)],rfl,call75,wg _ aR aN aP (GT.mono hle1 aH) aF (GT.mono hle1 aD) aG (GT.mono hle1 aE) nest aA.1 bpc0 aA.2 bpc1 hm1 _ rfl⟩) ?_
   rintro ac w ⟨rfl,hB⟩
   replace hm:=aI _ _ hB;clear hB aI hsub hm1
   refine gE (gS (gR (gF qf rfl (gL hm 2 isAgg43 rfl (gM rfl (gB rfl (gM rfl ?_)))))))
   obtain ⟨aS,hle2,hm1,hsub,aJ⟩:=hm.take2 (L1:=[_,_]) (L2:=[_]) [0,1] [2] (by decide) rfl rfl
   refine gCg rfl call74 (λr hq=>ih_ _ _ _ r hq _ aS aF (GT.mono hle2 aD) bpc0 bpc1 hm1) ?_
   rintro ae af ag w ⟨rfl,hB⟩
   replace hm:=aJ _ _ hB;clear hB aJ hsub hm1
   refine gE (gR (gF qJ rfl (gL hm 2 isAgg43 rfl (gM rfl (gB rfl (gM rfl ?_))))))
   obtain ⟨aT,hle3,hm1,hsub,aK⟩:=hm.take2 (L1:=[_,_]) (L2:=[_]) [0,1] [2] (by decide) rfl rfl
   refine gCg rfl call74 (λr hq=>ih_ _ _ _ r hq _ aT aG (GT.mono hle3 aE) bpc0 bpc1 hm1) ?_
   rintro ah ai aj w ⟨rfl,hB⟩
   replace hm:=aK _ _ hB;clear hB aK hsub hm1
   exact gE (gR (gP (by omega) (by omega) rfl (gM rfl (gE (gze hm [0,1] rfl)))))
  repeat clear hm
  intro ak al w hm am an
  exact gS (gR (gB rfl (gE (gS (go _ 11 rfl (decide_eq_false (by omega)) (gcf rfl (gXt (gHh (gre results74 ⟨rfl,hm⟩)))))))))
theorem ab7 (w0:World) (hz:kX) (list:List kN) (v1:Value) (h1:GT.rep hz [v1] list) (nest:Int) (c0:Int) (bpc0:Nat) (c1:Int) (bpc1:Nat) (hm0:Mem w0 hz w0 [blk bpc0 [nV c0] 3,blk bpc1 [nV c1] 3]) (r:Int × Int) (hq:oq list nest (c0,c1)=some r) :
    Con Tryz.prog 74 [v1,nV nest,.func (.func 75) #[] #[(pV bpc0),(pV bpc1)]] w0 (λv w'=>v=(.tuple #[])∧Mem w0 hz w' [blk bpc0 [nV r.1] 3,blk bpc1 [nV r.2] 3]):=aa0 list nest (c0,c1) r hq w0 hz v1 h1 bpc0 bpc1 hm0
theorem yk (w0:World) (p_:kp) (v1:Value) (h1:GT.rep (hp w0) [v1] p_.fns) :
    mE Tryz.prog 37 [(.agg #[v1])] w0 (rN p_) λr v w'=>v=(.tuple #[nV r.1,nV r.2])∧Below w0.heap.size w0 w':=by
  unfold rN
  refine mR func37 rfl λr=>?_
  have hm:=Mem.start w0
  refine gS (gR (gBx hm rfl λaR w hm=>gAl hm zeroValue3 rfl λaB w hm=>gAl hm zeroValue3 rfl λaC w hm=>gE (gS (gS (gR (gF nu rfl (gL hm 2 isAgg23 rfl ?_)))))))
  obtain ⟨aI,aJ,rfl,aS⟩:=kT h1
  refine gY (yV nz rfl) (gM rfl (gE (gBk (gNf hm (λaD aA=>[(2,(pV aB)),(3,(pV aC)),(7,(.slice aI p_.fns.length aJ)),(8,(nV ((p_.fns.length:Int)))),(9,(nV aD))]) (λaD aA=>[blk aB [nV aA.1] 3,blk aC [nV aA.2] 3]) [1,0] rfl ?_ ?_))))
  ·repeat clear hm
   intro _ _ aD aA w hm aT aU aV _
   refine gS (gR (gB rfl (gE (gS (go _ 10 rfl (decide_eq_true (by omega)) (gct rfl (gSk (gS (gBk (gS (gR (gg λaK aL aE=>?_))))))))))))
   obtain ⟨aX,aY,aZ,he⟩:=lU h1 aE
   obtain ⟨rfl,_,rfl⟩:=sl3 he
   obtain ⟨a8,aM,aN,aO,aG⟩:=sH h1 aE
   refine gI nz aL (lO aE) rfl (gY (yn (aN.mono hm.lez) isAgg45 sizeOf45 rfl) (gAl hm zeroValue45 rfl λaa w hm=>gSN hm 0 sizeOf45 (kL rfl (kL (ki aO) (kL (ki aG) ke))) rfl λw hm=>gE (gR (gF oE rfl (gL hm 0 isAgg43 rfl (gY (yU rfl) ?_))))))
   obtain ⟨aP,hle,hm1,hsub,aQ⟩:=hm.take2 (L1:=[_,_]) (L2:=[_]) [1,2] [0] (by decide) rfl rfl
   refine gCg rfl call74 (ab7 _ aP aK.body aM (GT.mono hle aG) 1 aA.1 aB aA.2 aC hm1) ?_
   rintro ab ac ae w ⟨rfl,hB⟩
   replace hm:=aQ _ _ hB;clear hB
   exact gE (gR (gP (by omega) (by omega) rfl (gM rfl (gE (gze hm [0,1] rfl)))))
  repeat clear hm
  intro af aH w hm ag ah
  refine gS (gR (gB rfl (gE (gS (go _ 10 rfl (decide_eq_false (by omega)) (gcf rfl (gXt (gHh (gS (gJ hm (λaF=>[(2,(pV aB)),(3,(pV aC))]) (λaF=>[blk aB [nV aH.1] 3,blk aC [nV aH.2] 3]) (λaF=>?_) ?_))))))))))
  ·refine gW (.e 0 (.e 1 (.e 2 (.e 3 .fin .nil) .nil) (.e 2 (.e 1 (.e 3 .fin .nil) .nil) .nil)) (.e 1 (.e 0 (.e 2 (.e 3 .fin .nil) .nil) .nil) .nil)) [] [] hm [0, 1] [_, _] rfl mxo (by kernel_rfl) (fun _ _ _ h => h.2) fun w hm hS => tMo ?_ ?_
   ·refine tY rfl (yL hm 0 isAgg3 rfl) (tAn rfl (tMo ?_ ?_))
    ·refine tY rfl (yL hm 1 isAgg3 rfl) (tAn rfl (tO (tf0 rfl rfl (λa hf=>nP 0 hf hm rfl sizeOf3 rfl rfl rfl rfl rfl) ?_)))
     rintro _ w hm
     refine tAn rfl (tO (tf0 rfl rfl (λa hf=>nP 1 hf hm rfl sizeOf3 rfl rfl rfl rfl rfl) ?_))
     rintro _ w hm
     exact tAn rfl (tE (gz hm [0,1] rfl))
    refine tO (tf0 rfl rfl (λa hf=>nP 0 hf hm rfl sizeOf3 rfl rfl rfl rfl rfl) ?_)
    rintro _ w hm
    refine tAn rfl (tO (tY rfl (yL hm 1 isAgg3 rfl) (tAn rfl (tO (tf0 rfl rfl (λa hf=>nP 1 hf hm rfl sizeOf3 rfl rfl rfl rfl rfl) ?_)))))
    rintro _ w hm
    exact tAn rfl (tE (gz hm [0,1] rfl))
   refine tO (tY rfl (yL hm 1 isAgg3 rfl) (tAn rfl (tO (tY rfl (yL hm 0 isAgg3 rfl) (tAn rfl (tO (tf0 rfl rfl (λa hf=>nP 0 hf hm rfl sizeOf3 rfl rfl rfl rfl rfl) ?_)))))))
   rintro _ w hm
   refine tAn rfl (tO (tf0 rfl rfl (λa hf=>nP 1 hf hm rfl sizeOf3 rfl rfl rfl rfl rfl) ?_))
   rintro _ w hm
   exact tAn rfl (tE (gz hm [0,1] rfl))
  repeat clear hm
  intro aF w hm
  exact gRt (by7 0 1 results37 hm rfl isAgg3 isAgg3 ⟨rfl,hm.below⟩)
theorem qZ (w0:World) (p_:kp) (v1:Value) (h1:GT.rep (hp w0) [v1] p_.fns) (hG0:GT.rep (hp w0) [.slice (some ⟨0,0,none⟩) 9 9] k7) (hG1:GT.rep (hp w0) [.slice (some ⟨1,0,none⟩) 1 1] [kO]) :
    mE Tryz.prog 11 [(.agg #[v1])] w0 (nw p_) λr v w'=>v=(.bool (r))∧Below w0.heap.size w0 w':=by
  unfold nw
  refine mR func11 rfl λr=>?_
  have hm:=Mem.start w0
  refine gS (gR (gBx hm rfl λaB w hm=>gA rfl (gE (gS (gS (gR (gF nu rfl (gL hm 0 isAgg23 rfl ?_))))))))
  obtain ⟨aF,aA,rfl,aZ⟩:=kT h1
  refine gY (yV nz rfl) (gC hm rfl call32 (qV _ (p_.fns.length:Int) 1 4) λa8 aa w hm=>gN rfl (gE (gsn 11 rfl (λaM=>?_) λaM=>?_)))
  ·exact gct rfl (gS (gR (gA rfl (gE (gRt (gr1 results11 rfl ⟨rfl,hm.below⟩))))))
  refine gcf rfl (gSk (gS (gS (gR (gF nu rfl (gL hm 0 isAgg23 rfl (gY (yV nz rfl) (gM rfl (gE (gBk (gNf hm (λaC aI=>[(1,(pV aB)),(13,(.slice aF p_.fns.length aA)),(14,(nV ((p_.fns.length:Int)))),(15,(nV aC))]) (λaC aI=>[blk aB [.slice aF p_.fns.length aA] 25]) [0] rfl ?_ ?_)))))))))))
  ·repeat clear hm
   intro ab aN aC aI w hm ac ae af aO
   refine gS (gR (gB rfl (gE (gS (go _ 16 rfl (decide_eq_true (by omega)) (gct rfl (gSk (gS (gBk (gS (gR (gg λaD aP aG=>?_))))))))))))
   obtain ⟨aJ,aK,ag,he⟩:=lU h1 aG
   obtain ⟨rfl,_,rfl⟩:=sl3 he
   obtain ⟨ah,aQ,aR,aH,aL⟩:=sH h1 aG
   refine gI nz aP (lO aG) rfl (gY (yn (aR.mono hm.lez) isAgg45 sizeOf45 rfl) (gAl hm zeroValue45 rfl λai w hm=>gSN hm 0 sizeOf45 (kL rfl (kL (ki aH) (kL (ki aL) ke))) rfl λw hm=>gE (gS (gJ hm (λaE=>[(1,(pV aB)),(13,(sV aJ aK p_.fns.length aA)),(14,(nV ((p_.fns.length:Int)))),(15,(nV aC)),(39,(.bool (aE)))]) (λaE=>[blk aB [sV aJ aK p_.fns.length aA] 25]) (λaE=>?_) ?_))))
   ·refine gR (gF sn rfl (gL hm 0 isAgg9 rfl (gC hm rfl call33 (pY _ aD.name (hm.now hG0)) λaj ak w hm=>gN rfl (gM rfl (gsn 23 rfl (λaS=>?_) λaS=>?_)))))
    ·exact gO rfl (gO rfl (gO rfl (gO rfl (gKt rfl (gM rfl (gO rfl (gO rfl (gO rfl (gKt rfl (gM rfl (gO rfl (gO rfl (gO rfl (gO rfl (gKt rfl (gE (gz hm [1] rfl)))))))))))))))))
    refine gF o6 rfl (gL hm 0 isAgg42 rfl ?_)
    obtain ⟨aT,aU,rfl,al⟩:=kT aH
    refine gY (yV oG rfl) (gB rfl (gKf rfl (gM rfl (gsd 29 rfl (λaV=>?_) λaV=>?_))))
    ·exact gO rfl (gO rfl (gO rfl (gKt rfl (gM rfl (gO rfl (gO rfl (gO rfl (gO rfl (gKt rfl (gE (gz hm [1] rfl)))))))))))
    refine gF o6 rfl (gL hm 0 isAgg42 rfl (gC hm rfl call34 (qR _ aD.params (.slice aT aD.params.length aU) (hm.now aH) (λy0=>mM y0) (.func (.func 35) #[] #[]) (λw y0 r hB hq=>⟨35,[],rfl,call35,ub w y0 (yK (hm.now hG0) hB) r hq⟩)) λam an w hm=>gKf rfl (gM rfl (gs 34 rfl (λaX=>?_) λaX=>?_))))
    ·exact gO rfl (gO rfl (gO rfl (gO rfl (gKt rfl (gE (gz hm [1] rfl))))))
    exact gF oE rfl (gL hm 0 isAgg43 rfl (gC hm rfl call36 (yt _ aD.body aQ (hm.now aL) 1 (hm.now hG0) (hm.now hG1)) λao aq w hm=>gN rfl (gKf rfl (gE (gz hm [1] rfl)))))
   repeat clear hm
   intro aE w hm
   refine gs 39 rfl (λaY=>?_) λaY=>?_
   ·exact gct rfl (gS (gR (gA rfl (gE (gRt (gLr aO aN (gr1 results11 rfl ⟨rfl,hm.below⟩)))))))
   exact gcf rfl (gSk (gR (gP (by omega) (by omega) rfl (gM rfl (gE (gze hm [0] rfl))))))
  repeat clear hm
  intro ar au w hm av aw
  exact gS (gR (gB rfl (gE (gS (go _ 16 rfl (decide_eq_false (by omega)) (gcf rfl (gXt (gHh (gS (gR (gY (yn (hm.blk_at 0 rfl) isAgg25 sizeOf25 rfl) (gC hm rfl call37 (yk _ p_ (.slice aF p_.fns.length aA) (hm.now h1)) λax ay w hm=>gM rfl (gX rfl (gX rfl (gA rfl (gA rfl (gE (gS (gR (gM rfl (gB rfl (gA rfl (gE (gRt (gr1 results11 rfl ⟨rfl,hm.below⟩)))))))))))))))))))))))))
theorem nS (w0:World) (s_:Str) :
    mE Tryz.prog 18 [(tV s_)] w0 (ky s_) λr v w'=>v=(.agg #[nV r.kind,(tV r.text)])∧Below w0.heap.size w0 w':=by
  unfold ky
  refine mR func18 rfl λr=>?_
  have hm:=Mem.start w0
  exact gS (gR (gAl hm zeroValue47 rfl λaA w hm=>gE (gS (gR (gM rfl (gY (yG rfl (kr (vs:=[(0,(nV 4)),(1,(tV s_))]) (cs:=#[nV 4,(tV s_)]) rfl rfl (by kernel_rfl))) (gSN hm 0 sizeOf47 (kL rfl (kL rfl ke)) rfl λw hm=>gE (gRt (grc 0 results18 hm rfl isAgg47 sizeOf47 ⟨rfl,hm.below⟩)))))))))
theorem om (w0:World) (s_:Str) :
    mE Tryz.prog 19 [(tV s_)] w0 (lW s_) λr v w'=>v=(.agg #[nV r.kind,(tV r.text)])∧Below w0.heap.size w0 w':=by
  unfold lW
  refine mR func19 rfl λr=>?_
  have hm:=Mem.start w0
  exact gS (gR (gAl hm zeroValue47 rfl λaA w hm=>gE (gS (gR (gM rfl (gY (yG rfl (kr (vs:=[(0,(nV 1)),(1,(tV s_))]) (cs:=#[nV 1,(tV s_)]) rfl rfl (by kernel_rfl))) (gSN hm 0 sizeOf47 (kL rfl (kL rfl ke)) rfl λw hm=>gE (gRt (grc 0 results19 hm rfl isAgg47 sizeOf47 ⟨rfl,hm.below⟩)))))))))
theorem lM (w0:World) (s_:Str) :
    mE Tryz.prog 20 [(tV s_)] w0 (kZ s_) λr v w'=>v=(.agg #[nV r.kind,(tV r.text)])∧Below w0.heap.size w0 w':=by
  unfold kZ
  refine mR func20 rfl λr=>?_
  have hm:=Mem.start w0
  exact gS (gR (gAl hm zeroValue47 rfl λaA w hm=>gE (gS (gR (gM rfl (gY (yG rfl (kr (vs:=[(0,(nV 3)),(1,(tV s_))]) (cs:=#[nV 3,(tV s_)]) rfl rfl (by kernel_rfl))) (gSN hm 0 sizeOf47 (kL rfl (kL rfl ke)) rfl λw hm=>gE (gRt (grc 0 results20 hm rfl isAgg47 sizeOf47 ⟨rfl,hm.below⟩)))))))))
theorem ym (w0:World) (i_:Int) (hG6:GT.rep (hp w0) [.pointer (some ⟨6,0,none⟩)] lB) :
    mE Tryz.prog 120 [nV i_] w0 (strconv_Itoa i_) λr v w'=>v=(tV r)∧Below w0.heap.size w0 w':=bg3 laysM171 (by kernel_rfl) w0 i_ hG6
theorem w9  : ∀ (list:List kJ) (e:kK) (around:Bool) (r:(List kJ)),ld list e around=some r→∀ (w0:World) (hz:kX) (v1:Value) (v2:Value) (h2:GT.rep hz [v2] e.kids) (hm0:Mem w0 hz w0 [ow [v1] list]) (hG1:GT.rep hz [.slice (some ⟨1,0,none⟩) 1 1] [kO]) (hG6:GT.rep hz [.pointer (some ⟨6,0,none⟩)] lB),Con Tryz.prog 92 [v1,(.agg #[nV e.op,nV e.n_,(tV e.name),v2]),(.bool (around))] w0 (λv w'=>∃ (x1:Value),v=x1∧Mem w0 hz w' [ow [x1] r]):=by
  refine ld.partial_correctness  (motive:=λlist e around r=>∀ (w0:World) (hz:kX) (v1:Value) (v2:Value) (h2:GT.rep hz [v2] e.kids) (hm0:Mem w0 hz w0 [ow [v1] list]) (hG1:GT.rep hz [.slice (some ⟨1,0,none⟩) 1 1] [kO]) (hG6:GT.rep hz [.pointer (some ⟨6,0,none⟩)] lB),Con Tryz.prog 92 [v1,(.agg #[nV e.op,nV e.n_,(tV e.name),v2]),(.bool (around))] w0 (λv w'=>∃ (x1:Value),v=x1∧Mem w0 hz w' [ow [x1] r])) ?_
  intro rec_ ih_ list e around r hq w0 hz v1 v2 h2 hm0 hG1 hG6
  have impl_exprWords_rec:∀ (w0:World) (hz:kX) (list:List kJ) (v1:Value) (e:kK) (v2:Value) (h2:GT.rep hz [v2] e.kids) (around:Bool) (hm0:Mem w0 hz w0 [ow [v1] list]) (hG1:GT.rep hz [.slice (some ⟨1,0,none⟩) 1 1] [kO]) (hG6:GT.rep hz [.pointer (some ⟨6,0,none⟩)] lB) (r:(List kJ)) (hq:rec_ list e around=some r),Con Tryz.prog 92 [v1,(.agg #[nV e.op,nV e.n_,(tV e.name),v2]),(.bool (around))] w0 (λv w'=>∃ (x1:Value),v=x1∧Mem w0 hz w' [ow [x1] r]):=λw0 hz list v1 e v2 h2 around hm0 hG1 hG6 r hq=>ih_ list e around r hq w0 hz v1 v2 h2 hm0 hG1 hG6
  refine pO (ρ:=(List kJ)) (R:=λr v w'=>∃ (x1:Value),v=x1∧Mem w0 hz w' [ow [x1] r]) func92 rfl hq ?_
  have hm:=hm0
  refine gS (gR (gBx hm rfl λaB w hm=>gA rfl (gE (gS (gS (gR (gM rfl (gE (gs 11 rfl (λan=>?_) λan=>?_)))))))))
  ·refine gct rfl (gS (gR (gM rfl (gC hm rfl call20 (lM _ (mkS [40])) fun aC ca w hm => gf rfl (fun a hf => kS (vs := #[(0, (.agg #[nV aC.kind, (tV aC.text)]))]) (cs := [nV aC.kind, (tV aC.text)]) mG hf hm rfl rfl (by kernel_rfl) rfl rfl) ?_))))
   rintro _ w ⟨cb,rfl,hm⟩
   replace hm:=hm.lit (xs:=([aC]:List kJ)) 0 rfl rfl rfl rfl
   refine gb λao aq=>?_
   obtain ⟨ar,au⟩:=kb.1 aq
   refine gf rfl (λa hf=>lr 2 mG hf hm rfl (hm.ow_rep 0 rfl) rfl rfl rfl ar) ?_
   rintro av w hm
   rw [au] at hm
   refine gA rfl (gE (gS (gR (gM rfl (gY (yn (hm.blk_at 1 rfl) isAgg80 sizeOf80 rfl) ?_)))))
   obtain ⟨aw,hle,hm1,hsub,ax⟩:=hm.take2 (L1:=[_]) (L2:=[_,_]) [2] [0,1] (by decide) rfl rfl
   refine gCg rfl call92 (impl_exprWords_rec _ aw ao av e v2 (GT.mono hle h2) false hm1 (GT.mono hle hG1) (GT.mono hle hG6)) ?_
   rintro cc cd ce w ⟨_,rfl,hB⟩
   replace hm:=ax _ _ hB;clear hB
   refine gA rfl (gE (gS (gR (gM rfl (gC hm rfl call20 (lM _ (mkS [41])) λaD cf w hm=>gf rfl (λa hf=>kS (vs:=#[(0,(.agg #[nV aD.kind,(tV aD.text)]))]) (cs:=[nV aD.kind,(tV aD.text)]) mG hf hm rfl rfl (by kernel_rfl) rfl rfl) ?_)))))
   rintro _ w ⟨cg,rfl,hm⟩
   replace hm:=hm.lit (xs:=([aD]:List kJ)) 0 rfl rfl rfl rfl
   refine gb λcj ay=>?_
   obtain ⟨az,bA⟩:=kb.1 ay
   refine gf rfl (λa hf=>lr 1 mG hf hm rfl (hm.ow_rep 0 rfl) rfl rfl rfl az) ?_
   rintro bB w hm
   rw [bA] at hm
   exact gA rfl (gE (gRt (gr1 results92 rfl ⟨bB,rfl,hm.pk [1] rfl rfl⟩)))
  refine gcf rfl (gSk (gS (gR (gF mP rfl (gL hm 0 isAgg3 rfl (gC hm rfl call119 (po _ e.op (hm.now hG1)) λaV ck w hm=>gA rfl (gE (gS (gBk (gS (gR (gF mP rfl (gL hm 0 isAgg3 rfl (gB rfl (gA rfl (gE (gsd 26 rfl (λbC=>?_) λbC=>?_)))))))))))))))))
  ·refine gct rfl (gS (gR (gM rfl (gF qe rfl (gL hm 0 isAgg3 rfl (gC hm rfl call120 (ym _ e.n_ (hm.now hG6)) fun aE cl w hm => gY (yG rfl (kr (vs := [(0, (nV 2)), (1, (tV aE))]) (cs := #[nV 2, (tV aE)]) rfl rfl (by kernel_rfl))) (gf rfl (fun a hf => kS (vs := #[(0, (.agg #[nV 2, (tV aE)]))]) (cs := [nV 2, (tV aE)]) mG hf hm rfl rfl (by kernel_rfl) rfl rfl) ?_)))))))
   rintro _ w ⟨cm,rfl,hm⟩
   replace hm:=hm.lit (xs:=([(⟨2,aE⟩:kJ)]:List kJ)) 0 rfl rfl rfl rfl
   refine gb λcn bD=>?_
   obtain ⟨bE,bF⟩:=kb.1 bD
   refine gf rfl (λa hf=>lr 2 mG hf hm rfl (hm.ow_rep 0 rfl) rfl rfl rfl bE) ?_
   rintro bG w hm
   rw [bF] at hm
   exact gA rfl (gE (gRt (gr1 results92 rfl ⟨bG,rfl,hm.pk [2] rfl rfl⟩)))
  refine gcf rfl (gS (gR (gF mP rfl (gL hm 0 isAgg3 rfl (gB rfl (gA rfl (gE (gsd 37 rfl (λbH=>?_) λbH=>?_))))))))
  ·refine gct rfl (gS (gR (gM rfl (gF q9 rfl (gL hm 0 isAgg9 rfl (gC hm rfl call19 (om _ e.name) fun aF co w hm => gf rfl (fun a hf => kS (vs := #[(0, (.agg #[nV aF.kind, (tV aF.text)]))]) (cs := [nV aF.kind, (tV aF.text)]) mG hf hm rfl rfl (by kernel_rfl) rfl rfl) ?_))))))
   rintro _ w ⟨cq,rfl,hm⟩
   replace hm:=hm.lit (xs:=([aF]:List kJ)) 0 rfl rfl rfl rfl
   refine gb λcr bJ=>?_
   obtain ⟨bK,bL⟩:=kb.1 bJ
   refine gf rfl (λa hf=>lr 2 mG hf hm rfl (hm.ow_rep 0 rfl) rfl rfl rfl bK) ?_
   rintro bM w hm
   rw [bL] at hm
   exact gA rfl (gE (gRt (gr1 results92 rfl ⟨bM,rfl,hm.pk [2] rfl rfl⟩)))
  refine gcf rfl (gS (gR (gF mP rfl (gL hm 0 isAgg3 rfl (gB rfl (gA rfl (gE (gsd 47 rfl (λbN=>?_) λbN=>?_))))))))
  ·refine gct rfl (gS (gR (gM rfl (gF q9 rfl (gL hm 0 isAgg9 rfl (gC hm rfl call19 (om _ e.name) fun aG ct w hm => gC hm rfl call20 (lM _ (mkS [40])) fun aH cu w hm => gf rfl (fun a hf => kS (vs := #[(0, (.agg #[nV aG.kind, (tV aG.text)])), (1, (.agg #[nV aH.kind, (tV aH.text)]))]) (cs := [nV aG.kind, (tV aG.text), nV aH.kind, (tV aH.text)]) mG hf hm rfl rfl (by kernel_rfl) rfl rfl) ?_))))))
   rintro _ w ⟨cv,rfl,hm⟩
   replace hm:=hm.lit (xs:=([aG,aH]:List kJ)) 0 rfl rfl rfl rfl
   refine gb λbO bP=>?_
   obtain ⟨bQ,bR⟩:=kb.1 bP
   refine gf rfl (λa hf=>lr 2 mG hf hm rfl (hm.ow_rep 0 rfl) rfl rfl rfl bQ) ?_
   rintro cw w hm
   rw [bR] at hm
   refine gA rfl (gE (gS (gS (gR (gF mJ rfl (gL hm 1 isAgg59 rfl ?_))))))
   obtain ⟨bS,aX,rfl,cx⟩:=kT h2
   refine gY (yV nL rfl) (gM rfl (gE ?_))
   obtain ⟨bT,bU,rfl,cy⟩:=kT (hm.ow_rep 2 rfl)
   refine gBk (gNg (λaS aY a w=>∃ (aM:Value),St 140 [(0,aM),(59,(.slice bS e.kids.length aX)),(60,(nV ((e.kids.length:Int)))),(61,(nV aS))] w0 hz [ow [aM] aY] a w) (λa hf=>⟨.slice bT bO.length bU,hf.sb rfl,hm.pk [2] rfl rfl⟩) ?_ ?_)
   ·repeat clear hm
    rintro _ _ aS aY a w ⟨aM,hf,hm⟩ cz dA dB _
    refine gv hf (gS (gR (gB rfl (gE (gS (go _ 62 rfl (decide_eq_true (by omega)) (gct rfl (gSk (gS (gBk (gS (gR (gM rfl (gg λaN bV aT=>?_))))))))))))))
    obtain ⟨bW,bX,dC,he⟩:=lU h2 aT
    obtain ⟨rfl,_,rfl⟩:=sl3 he
    obtain ⟨aZ,bY,a8⟩:=n0 h2 aT
    refine gI nL bV (lO aT) rfl (gY (yn (bY.mono hm.lez) isAgg80 sizeOf80 rfl) (gAl hm zeroValue80 rfl λaa w hm=>gA rfl (gSN hm 0 sizeOf80 (kL rfl (kL rfl (kL rfl (kL (ki a8) ke)))) rfl λw hm=>gE (gS (gS (gR (gM rfl (gB rfl (gE (gJg (λaO a w=>∃ (aP:Value),St 140 [(0,aP),(9,(pV aa)),(59,(sV bW bX e.kids.length aX)),(60,(nV ((e.kids.length:Int)))),(61,(nV aS))] w0 hz [ow [aP] aO,blk aa [nV aN.op,nV aN.n_,(tV aN.name),aZ] 80] a w) (λaO=>?_) ?_))))))))))
    ·refine gsd 67 rfl (λbZ=>?_) λbZ=>?_
     ·refine gct rfl (gR (gM rfl (gC hm rfl call20 (lM _ (mkS [44])) fun aI dD w hm => gf rfl (fun a hf => kS (vs := #[(0, (.agg #[nV aI.kind, (tV aI.text)]))]) (cs := [nV aI.kind, (tV aI.text)]) mG hf hm rfl rfl (by kernel_rfl) rfl rfl) ?_)))
      rintro _ w ⟨dE,rfl,hm⟩
      replace hm:=hm.lit (xs:=([aI]:List kJ)) 0 rfl rfl rfl rfl
      refine gb λdF b8=>?_
      obtain ⟨b9,ba⟩:=kb.1 b8
      refine gf rfl (λa hf=>lr 2 mG hf hm rfl (hm.ow_rep 0 rfl) rfl rfl rfl b9) ?_
      rintro bb w hm
      rw [ba] at hm
      exact gA rfl (gE (gZ λa hf=>⟨bb,hf.sb rfl,hm.pk [2,1] rfl rfl⟩))
     exact gcf rfl (gSk (gZ λa hf=>⟨aM,hf.sb rfl,hm.pk [1,0] rfl rfl⟩))
    repeat clear hm
    rintro aO a w ⟨aP,hf,hm⟩
    refine gv hf (gR (gM rfl (gY (yn (hm.blk_at 1 rfl) isAgg80 sizeOf80 rfl) ?_)))
    obtain ⟨bc,hle,hm1,hsub,bd⟩:=hm.take2 (L1:=[_]) (L2:=[_]) [0] [1] (by decide) rfl rfl
    refine gCg rfl call92 (impl_exprWords_rec _ bc aO aP aN aZ (GT.mono hle a8) false hm1 (GT.mono hle hG1) (GT.mono hle hG6)) ?_
    rintro dG dH be w ⟨_,rfl,hB⟩
    replace hm:=bd _ _ hB;clear hB
    exact gA rfl (gE (gR (gP (by omega) (by omega) rfl (gM rfl (gE (gZe λa hf=>⟨be,hf.sb rfl,hm.pk [0] rfl rfl⟩))))))
   repeat clear hm
   rintro dI dJ a w ⟨dK,hf,hm⟩ dL dM
   refine gv hf (gS (gR (gB rfl (gE (gS (go _ 62 rfl (decide_eq_false (by omega)) (gcf rfl (gXt (gHh (gS (gR (gM rfl (gC hm rfl call20 (lM _ (mkS [41])) λaJ dN w hm=>gf rfl (λa hf=>kS (vs:=#[(0,(.agg #[nV aJ.kind,(tV aJ.text)]))]) (cs:=[nV aJ.kind,(tV aJ.text)]) mG hf hm rfl rfl (by kernel_rfl) rfl rfl) ?_)))))))))))))
   rintro _ w ⟨dO,rfl,hm⟩
   replace hm:=hm.lit (xs:=([aJ]:List kJ)) 0 rfl rfl rfl rfl
   refine gb λdP bf=>?_
   obtain ⟨bg,bh⟩:=kb.1 bf
   refine gf rfl (λa hf=>lr 1 mG hf hm rfl (hm.ow_rep 0 rfl) rfl rfl rfl bg) ?_
   rintro bi w hm
   rw [bh] at hm
   exact gA rfl (gE (gRt (gr1 results92 rfl ⟨bi,rfl,hm.pk [1] rfl rfl⟩)))
  refine gcf rfl (gS (gR (gM rfl (gB rfl (gA rfl (gE (gsd 80 rfl (λbj=>?_) λbj=>?_)))))))
  ·refine gct rfl (gS (gR (gA rfl (gE (gS (gS (gR (gF mP rfl (gL hm 0 isAgg3 rfl (gB rfl (gE (gJ hm (λaK=>[(0,v1),(4,(pV aB)),(10,(tV aK))]) (λaK=>[ow [v1] list,blk aB [nV e.op,nV e.n_,(tV e.name),v2] 80]) (λaK=>?_) ?_))))))))))))
   ·refine gsd 85 rfl (λbk=>?_) λbk=>?_
    ·exact gct rfl (gR (gA rfl (gE (gz hm [1,0] rfl))))
    exact gcf rfl (gSk (gz hm [1,0] rfl))
   repeat clear hm
   intro aK w hm
   refine gS (gW (.p 0 (.p 1 (.p 5 (.p 9 (.q 6 (.p 7 (.q 8 (.q 10 (.p 11 (.p 12 (.q 13 (.e 2 (.e 3 (.e 4 (.e 14 (.p 15 (.e 16 (.p 17 .fin) .nil)) .nil) .nil) .nil) .nil)))))))))))) [2,3,4,6,8,10,13,14] [0,1,5,7,9,11,12,15,17] hm [1] [blk aB [nV e.op,nV e.n_,(tV e.name),v2] 80] rfl mxo (by kernel_rfl) (λ_ _ _ h=>h.2) λw hm hS=>tP rfl (λw=>yM rfl) (tP rfl (λw=>yM rfl) (tP rfl (λw=>yF mJ rfl) (tP rfl (λw=>yF mJ rfl) (tQ rfl hS (λw hm=>yL hm 0 isAgg59 rfl) (gg λab ac aQ=>?_))))))
   obtain ⟨dQ,dR,dS,he⟩:=lU h2 aQ
   subst he
   obtain ⟨bl,ae,bm⟩:=n0 h2 aQ
   refine tP rfl (λw=>yI nL ac (lO aQ) rfl) (tQ rfl hS (λw hm=>yn (ae.mono hm.lez) isAgg80 sizeOf80 rfl) (tQ rfl hS (λw hm=>yL hm 0 isAgg59 rfl) (tP rfl (λw=>yI nL ac (lO aQ) rfl) (tP rfl (λw=>yF mP rfl) (tQ rfl hS (λw hm=>yl isAgg3 ((ae.mono hm.lez).cell (j:=0) rfl) rfl) (tO (gb λaL bo=>tf rfl rfl (λa hf=>lK hf rfl call20 rfl (lM _ aK _ bo)) ?_)))))))
   rintro dT w ⟨rfl,hB⟩
   replace hm:=hm.below' hB;clear hB
   refine tAk hm [1] rfl λhS=>tO (tf rfl rfl (λa hf=>kS (vs:=#[(0,(.agg #[nV aL.kind,(tV aL.text)]))]) (cs:=[nV aL.kind,(tV aL.text)]) mG hf hm rfl rfl (by kernel_rfl) rfl rfl) ?_)
   rintro _ w ⟨dU,rfl,hm⟩
   replace hm:=hm.lit (xs:=([aL]:List kJ)) 0 rfl rfl rfl rfl
   refine tAk hm [2] rfl λhS=>tO (gb λbp bq=>?_)
   obtain ⟨br,bs⟩:=kb.1 bq
   refine tf rfl rfl (λa hf=>lr 1 mG hf hm rfl (hm.ow_rep 0 rfl) rfl rfl rfl br) ?_
   rintro bt w hm
   rw [bs] at hm
   refine tAk hm [2] rfl λhS=>tO (gb λbu bv=>tf rfl rfl (λa hf=>lK hf rfl call119 rfl (po _ ab.op (hm.now hG1) _ bv)) ?_)
   rintro dV w ⟨rfl,hB⟩
   replace hm:=hm.below' hB;clear hB
   refine tAk hm [2] rfl λhS=>tP rfl (λw=>yB rfl) (tO (gb λdW bw=>?_))
   obtain ⟨bz,hle,hm1,hsub,cA⟩:=hm.take2 (L1:=[_]) (L2:=[_,_]) [1] [0,2] (by decide) rfl rfl
   refine tf rfl rfl (λa hf=>lK hf rfl call92 rfl (impl_exprWords_rec _ bz bp bt ab bl (GT.mono hle bm) (decide (bu<5)) hm1 (GT.mono hle hG1) (GT.mono hle hG6) _ bw)) ?_
   rintro cC w ⟨_,rfl,hB⟩
   replace hm:=cA _ _ hB;clear hB
   exact tAn rfl (tP rfl (λw=>yA rfl) (tE (gRt (gr1 results92 rfl ⟨cC,rfl,hm.pk [0] rfl rfl⟩))))
  refine gcf rfl (gSk (gS (gW (.p 0 (.p 1 (.p 5 (.p 11 (.q 2 (.p 3 (.q 4 (.e 6 (.p 7 (.p 8 (.e 9 (.e 10 (.p 12 (.e 13 (.p 14 .fin) .nil)) .nil) .nil))) .nil)))))))) [6,9,10] [0,1,3,5,7,8,11,12,14] hm [0,1] [blk aB [nV e.op,nV e.n_,(tV e.name),v2] 80,ow [v1] list] rfl mxo (by kernel_rfl) (λ_ _ _ h=>h.2) λw hm hS=>tP rfl (λw=>yM rfl) (tP rfl (λw=>yF mJ rfl) (tP rfl (λw=>yF mJ rfl) (tP rfl (λw=>yM rfl) (tQ rfl hS (λw hm=>yL hm 0 isAgg59 rfl) (gg λaf ag aR=>?_))))))))
  obtain ⟨cD,cE,cF,he⟩:=lU h2 aR
  subst he
  obtain ⟨cG,ah,cH⟩:=n0 h2 aR
  refine tP rfl (λw=>yI nL ag (lO aR) rfl) (tQ rfl hS (λw hm=>yn (ah.mono hm.lez) isAgg80 sizeOf80 rfl) (tO (tY rfl (yL hm 0 isAgg59 rfl) (tAs hS (tP rfl (λw=>yI nL ag (lO aR) rfl) (tP rfl (λw=>yF mP rfl) (tO (tY rfl (yl isAgg3 ((ah.mono hm.lez).cell (j:=0) rfl) rfl) (tAs hS (tO (gb λcI cJ=>tf rfl rfl (λa hf=>lK hf rfl call119 rfl (po _ af.op (hm.now hG1) _ cJ)) ?_)))))))))))
  rintro dX w ⟨rfl,hB⟩
  replace hm:=hm.below' hB;clear hB
  refine tAk hm [0,1] rfl λhS=>tP rfl (λw=>yB rfl) (tO (gb λdY cK=>?_))
  obtain ⟨cL,hle,hm1,hsub,cN⟩:=hm.take2 (L1:=[_]) (L2:=[_]) [1] [0] (by decide) rfl rfl
  refine tf rfl rfl (λa hf=>lK hf rfl call92 rfl (impl_exprWords_rec _ cL list v1 af cG (GT.mono hle cH) (decide (cI<aV)) hm1 (GT.mono hle hG1) (GT.mono hle hG6) _ cK)) ?_
  rintro dZ w ⟨_,rfl,hB⟩
  replace hm:=cN _ _ hB;clear hB
  refine tAn rfl (tP rfl (λw=>yA rfl) (tE (gS (gR (gM rfl ?_)))))
  obtain ⟨d1,cO,cP⟩:=tZ hG1 rfl
  refine gY (yl isAgg147 ((lq.mono hm.lez (cO)).cell (j:=0) rfl) rfl) (gF mP rfl (gL hm 1 isAgg3 rfl (gY (yG rfl (yx (key:=e.op) (m:=(kO:ni k9)) (z:=(⟨(mkS []),0⟩:k9)) (v2:=(.agg #[(tV (((ni.get kO e.op).getD (⟨(mkS []),0⟩:k9)).sign)),nV (((ni.get kO e.op).getD (⟨(mkS []),0⟩:k9)).level)])) underlying3 underlying147 zeroValue146 (hm.now cP) rfl rfl rfl rfl rfl)) (gY (yG rfl (wq underlying146 rfl rfl isAgg9 rfl rfl rfl)) (gC hm rfl call20 (lM _ (((ni.get kO e.op).getD (⟨(mkS []),0⟩:k9)).sign)) λaA d2 w hm=>gf rfl (λa hf=>kS (vs:=#[(0,(.agg #[nV aA.kind,(tV aA.text)]))]) (cs:=[nV aA.kind,(tV aA.text)]) mG hf hm rfl rfl (by kernel_rfl) rfl rfl) ?_)))))
  rintro _ w ⟨cQ,rfl,hm⟩
  replace hm:=hm.lit (xs:=([aA]:List kJ)) 0 rfl rfl rfl rfl
  refine gb λai cR=>?_
  obtain ⟨cS,cT⟩:=kb.1 cR
  refine gf rfl (λa hf=>lr 1 mG hf hm rfl (hm.ow_rep 0 rfl) rfl rfl rfl cS) ?_
  rintro aj w hm
  rw [cT] at hm
  refine gA rfl (gE (gS (gW (.p 0 (.p 1 (.p 5 (.p 11 (.q 2 (.p 3 (.q 4 (.e 6 (.p 7 (.p 8 (.e 9 (.e 10 (.p 12 (.e 13 (.p 14 .fin) .nil)) .nil) .nil))) .nil)))))))) [6,9,10] [0,1,3,5,7,8,11,12,14] hm [0,1,2] [ow [sV cQ 0 1 1] ([aA]:List kJ),ow [aj] ai,blk aB [nV e.op,nV e.n_,(tV e.name),sV cD cE e.kids.length cF] 80] rfl mxo (by kernel_rfl) (λ_ _ _ h=>h.2) λw hm hS=>tP rfl (λw=>yM rfl) (tP rfl (λw=>yF mJ rfl) (tP rfl (λw=>yF mJ rfl) (tP rfl (λw=>yM rfl) (tQ rfl hS (λw hm=>yL hm 2 isAgg59 rfl) (gg λak al aU=>?_))))))))
  obtain ⟨cU,am,cV⟩:=n0 h2 aU
  refine tP rfl (λw=>yI nL al (lO aU) rfl) (tQ rfl hS (λw hm=>yn (am.mono hm.lez) isAgg80 sizeOf80 rfl) (tO (tY rfl (yL hm 2 isAgg59 rfl) (tAs hS (tP rfl (λw=>yI nL al (lO aU) rfl) (tP rfl (λw=>yF mP rfl) (tO (tY rfl (yl isAgg3 ((am.mono hm.lez).cell (j:=0) rfl) rfl) (tAs hS (tO (gb λcW cX=>tf rfl rfl (λa hf=>lK hf rfl call119 rfl (po _ ak.op (hm.now hG1) _ cX)) ?_)))))))))))
  rintro d3 w ⟨rfl,hB⟩
  replace hm:=hm.below' hB;clear hB
  refine tAk hm [0,1,2] rfl λhS=>tP rfl (λw=>yB rfl) (tO (gb λd4 cY=>?_))
  obtain ⟨cZ,hle,hm1,hsub,c8⟩:=hm.take2 (L1:=[_]) (L2:=[_,_]) [1] [0,2] (by decide) rfl rfl
  refine tf rfl rfl (λa hf=>lK hf rfl call92 rfl (impl_exprWords_rec _ cZ ai aj ak cU (GT.mono hle cV) (decide (cW≤aV)) hm1 (GT.mono hle hG1) (GT.mono hle hG6) _ cY)) ?_
  rintro c9 w ⟨_,rfl,hB⟩
  replace hm:=c8 _ _ hB;clear hB
  exact tAn rfl (tP rfl (λw=>yA rfl) (tE (gRt (gr1 results92 rfl ⟨c9,rfl,hm.pk [0] rfl rfl⟩))))
theorem xQ (w0:World) (hz:kX) (list:List kJ) (v1:Value) (e:kK) (v2:Value) (h2:GT.rep hz [v2] e.kids) (around:Bool) (hm0:Mem w0 hz w0 [ow [v1] list]) (hG1:GT.rep hz [.slice (some ⟨1,0,none⟩) 1 1] [kO]) (hG6:GT.rep hz [.pointer (some ⟨6,0,none⟩)] lB) (r:(List kJ)) (hq:ld list e around=some r):Con Tryz.prog 92 [v1,(.agg #[nV e.op,nV e.n_,(tV e.name),v2]),(.bool (around))] w0 (λv w'=>∃ (x1:Value),v=x1∧Mem w0 hz w' [ow [x1] r]):=w9 list e around r hq w0 hz v1 v2 h2 hm0 hG1 hG6
theorem wL  : (∀ (list:List kJ) (body:List kN) (r:(List kJ)),lx list body=some r→∀ (w0:World) (hz:kX) (v1:Value) (v2:Value) (h2:GT.rep hz [v2] body) (hm0:Mem w0 hz w0 [ow [v1] list]) (hG1:GT.rep hz [.slice (some ⟨1,0,none⟩) 1 1] [kO]) (hG6:GT.rep hz [.pointer (some ⟨6,0,none⟩)] lB),Con Tryz.prog 21 [v1,v2] w0 (λv w'=>∃ (x1:Value),v=x1∧Mem w0 hz w' [ow [x1] r])) ∧
    (∀ (list:List kJ) (body:List kN) (r:(List kJ)),pe list body=some r→∀ (w0:World) (hz:kX) (v1:Value) (v2:Value) (h2:GT.rep hz [v2] body) (hm0:Mem w0 hz w0 [ow [v1] list]) (hG1:GT.rep hz [.slice (some ⟨1,0,none⟩) 1 1] [kO]) (hG6:GT.rep hz [.pointer (some ⟨6,0,none⟩)] lB),Con Tryz.prog 54 [v1,v2] w0 (λv w'=>∃ (x1:Value),v=x1∧Mem w0 hz w' [ow [x1] r])):=by
  refine lx.mutual_partial_correctness  (motive_1:=λlist body r=>∀ (w0:World) (hz:kX) (v1:Value) (v2:Value) (h2:GT.rep hz [v2] body) (hm0:Mem w0 hz w0 [ow [v1] list]) (hG1:GT.rep hz [.slice (some ⟨1,0,none⟩) 1 1] [kO]) (hG6:GT.rep hz [.pointer (some ⟨6,0,none⟩)] lB),Con Tryz.prog 21 [v1,v2] w0 (λv w'=>∃ (x1:Value),v=x1∧Mem w0 hz w' [ow [x1] r])) (motive_2:=λlist body r=>∀ (w0:World) (hz:kX) (v1:Value) (v2:Value) (h2:GT.rep hz [v2] body) (hm0:Mem w0 hz w0 [ow [v1] list]) (hG1:GT.rep hz [.slice (some ⟨1,0,none⟩) 1 1] [kO]) (hG6:GT.rep hz [.pointer (some ⟨6,0,none⟩)] lB),Con Tryz.prog 54 [v1,v2] w0 (λv w'=>∃ (x1:Value),v=x1∧Mem w0 hz w' [ow [x1] r])) ?_ ?_
  · intro rec_ ih_ list body r hq w0 hz v1 v2 h2 hm0 hG1 hG6
    have impl_stmtWords_rec:∀ (w0:World) (hz:kX) (list:List kJ) (v1:Value) (body:List kN) (v2:Value) (h2:GT.rep hz [v2] body) (hm0:Mem w0 hz w0 [ow [v1] list]) (hG1:GT.rep hz [.slice (some ⟨1,0,none⟩) 1 1] [kO]) (hG6:GT.rep hz [.pointer (some ⟨6,0,none⟩)] lB) (r:(List kJ)) (hq:rec_ list body=some r),Con Tryz.prog 54 [v1,v2] w0 (λv w'=>∃ (x1:Value),v=x1∧Mem w0 hz w' [ow [x1] r]):=λw0 hz list v1 body v2 h2 hm0 hG1 hG6 r hq=>ih_ list body r hq w0 hz v1 v2 h2 hm0 hG1 hG6
    refine pO (ρ:=(List kJ)) (R:=λr v w'=>∃ (x1:Value),v=x1∧Mem w0 hz w' [ow [x1] r]) func21 rfl hq ?_
    have hm:=hm0
    refine gS (gR (gA rfl (gE (gS (gR (gM rfl (gC hm rfl call20 (lM _ (mkS [123])) λaK dS w hm=>gf rfl (λa hf=>kS (vs:=#[(0,(.agg #[nV aK.kind,(tV aK.text)]))]) (cs:=[nV aK.kind,(tV aK.text)]) mG hf hm rfl rfl (by kernel_rfl) rfl rfl) ?_)))))))
    rintro _ w ⟨dT,rfl,hm⟩
    replace hm:=hm.lit (xs:=([aK]:List kJ)) 0 rfl rfl rfl rfl
    refine gb λb8 b9=>?_
    obtain ⟨ba,bb⟩:=kb.1 b9
    refine gf rfl (λa hf=>lr 1 mG hf hm rfl (hm.ow_rep 0 rfl) rfl rfl rfl ba) ?_
    rintro bc w hm
    rw [bb] at hm
    refine gM rfl ?_
    obtain ⟨bd,hle,hm1,hsub,be⟩:=hm.take2 (L1:=[_]) (L2:=[_]) [1] [0] (by decide) rfl rfl
    refine gCg rfl call54 (impl_stmtWords_rec _ bd b8 bc body v2 (GT.mono hle h2) hm1 (GT.mono hle hG1) (GT.mono hle hG6)) ?_
    rintro dU dV dW w ⟨_,rfl,hB⟩
    replace hm:=be _ _ hB;clear hB
    refine gC hm rfl call20 (lM _ (mkS [125])) λaL dX w hm=>gf rfl (λa hf=>kS (vs:=#[(0,(.agg #[nV aL.kind,(tV aL.text)]))]) (cs:=[nV aL.kind,(tV aL.text)]) mG hf hm rfl rfl (by kernel_rfl) rfl rfl) ?_
    rintro _ w ⟨dY,rfl,hm⟩
    replace hm:=hm.lit (xs:=([aL]:List kJ)) 0 rfl rfl rfl rfl
    refine gb λdZ bf=>?_
    obtain ⟨bg,bh⟩:=kb.1 bf
    refine gf rfl (λa hf=>lr 1 mG hf hm rfl (hm.ow_rep 0 rfl) rfl rfl rfl bg) ?_
    rintro bi w hm
    rw [bh] at hm
    exact gA rfl (gE (gRt (gr1 results21 rfl ⟨bi,rfl,hm.pk [1] rfl rfl⟩)))
  · intro rec_ ih_ list body r hq w0 hz v1 v2 h2 hm0 hG1 hG6
    have impl_blockWords_rec:∀ (w0:World) (hz:kX) (list:List kJ) (v1:Value) (body:List kN) (v2:Value) (h2:GT.rep hz [v2] body) (hm0:Mem w0 hz w0 [ow [v1] list]) (hG1:GT.rep hz [.slice (some ⟨1,0,none⟩) 1 1] [kO]) (hG6:GT.rep hz [.pointer (some ⟨6,0,none⟩)] lB) (r:(List kJ)) (hq:rec_ list body=some r),Con Tryz.prog 21 [v1,v2] w0 (λv w'=>∃ (x1:Value),v=x1∧Mem w0 hz w' [ow [x1] r]):=λw0 hz list v1 body v2 h2 hm0 hG1 hG6 r hq=>ih_ list body r hq w0 hz v1 v2 h2 hm0 hG1 hG6
    refine pO (ρ:=(List kJ)) (R:=λr v w'=>∃ (x1:Value),v=x1∧Mem w0 hz w' [ow [x1] r]) func54 rfl hq ?_
    have hm:=hm0
    refine gS (gR (gA rfl (gE (gS (gS (gR (gM rfl ?_)))))))
    obtain ⟨bP,aD,rfl,d1⟩:=kT h2
    refine gY (yV pI rfl) (gM rfl (gE ?_))
    obtain ⟨bj,bk,rfl,d2⟩:=kT (hm.ow_rep 0 rfl)
    refine gBk (gNg (λaC ax a w=>∃ (aM:Value),St 119 [(0,aM),(9,(.slice bP body.length aD)),(10,(nV ((body.length:Int)))),(11,(nV aC))] w0 hz [ow [aM] ax] a w) (λa hf=>⟨.slice bj list.length bk,hf.sb rfl,hm.pk [0] rfl rfl⟩) ?_ ?_)
    ·repeat clear hm
     rintro _ _ aC ax a w ⟨aM,hf,hm⟩ d3 d4 d5 _
     refine gv hf (gS (gR (gB rfl (gE (gS (go _ 12 rfl (decide_eq_true (by omega)) (gct rfl (gSk (gS (gJg (λay a w=>∃ (ab:Value),St 119 [(0,ab),(9,(.slice bP body.length aD)),(10,(nV ((body.length:Int)))),(11,(nV aC))] w0 hz [ow [ab] ay] a w) (λay=>?_) ?_))))))))))
     ·refine gBk (gS (gR (gg λaA bl az=>?_)))
      obtain ⟨aF,aG,d6,he⟩:=lU h2 az
      obtain ⟨rfl,_,rfl⟩:=sl3 he
      obtain ⟨aI,aE,aH,bm,ac,bQ,bA⟩:=rv h2 az
      refine gI pI bl (lO az) rfl (gY (yn (bm.mono hm.lez) isAgg61 sizeOf61 rfl) (gAl hm zeroValue61 rfl λaB w hm=>gSN hm 0 sizeOf61 (kL rfl (kL rfl (kL (ki ac) (kL (ki bQ) (kL (ki bA) ke))))) rfl λw hm=>gE (gS (gS (gR (gF oT rfl (gL hm 0 isAgg3 rfl (gE (gJg (λae a w=>∃ (bB:Value),St 119 [(0,bB),(6,(pV aB)),(9,(sV aF aG body.length aD)),(10,(nV ((body.length:Int)))),(11,(nV aC))] w0 hz [ow [bB] ae,blk aB [nV aA.op,(tV aA.name),aI,aE,aH] 61] a w) (λae=>?_) ?_)))))))))
      ·refine gBk (gS (gR (gB rfl (gA rfl (gE (gJg (λbC a w=>∃ (af:Value),St 119 [(0,af),(6,(pV aB)),(9,(sV aF aG body.length aD)),(10,(nV ((body.length:Int)))),(11,(nV aC))] w0 hz [ow [af] bC,blk aB [nV aA.op,(tV aA.name),aI,aE,aH] 61] a w) (λbC=>?_) ?_))))))
       ·refine gsd 17 rfl (λbo=>?_) λbo=>?_
        ·refine gct rfl (gW (.p 0 (.p 2 (.q 3 (.e 1 (.e 4 (.e 5 (.e 6 (.e 7 (.p 8 .fin) .nil) .nil) .nil) .nil) .nil)))) [1] [0, 2, 8] hm [0, 1] [blk aB [nV aA.op, (tV aA.name), aI, aE, aH] 61, ow [aM] ax] rfl mxo (by kernel_rfl) (fun _ _ _ h => h.2) fun w hm hS => tP rfl (fun w => yM rfl) (tP rfl (fun w => yF qd rfl) (tQ rfl hS (fun w hm => yL hm 0 isAgg9 rfl) (tO (gb fun aN bp => tf rfl rfl (fun a hf => lK hf rfl call18 rfl (nS _ (mkS [108, 101, 116]) _ bp)) ?_)))))
         rintro d7 w ⟨rfl,hB⟩
         replace hm:=hm.below' hB;clear hB
         refine tAk hm [0,1] rfl λhS=>tO (gb λaO bq=>tf rfl rfl (λa hf=>lK hf rfl call19 rfl (om _ aA.name _ bq)) ?_)
         rintro d8 w ⟨rfl,hB⟩
         replace hm:=hm.below' hB;clear hB
         refine tAn rfl (tO (gb λaP br=>tf rfl rfl (λa hf=>lK hf rfl call20 rfl (lM _ (mkS [61]) _ br)) ?_))
         rintro d9 w ⟨rfl,hB⟩
         replace hm:=hm.below' hB;clear hB
         refine tAn rfl (tO (tf rfl rfl (λa hf=>kS (vs:=#[(0,(.agg #[nV aN.kind,(tV aN.text)])),(1,(.agg #[nV aO.kind,(tV aO.text)])),(2,(.agg #[nV aP.kind,(tV aP.text)]))]) (cs:=[nV aN.kind,(tV aN.text),nV aO.kind,(tV aO.text),nV aP.kind,(tV aP.text)]) mG hf hm rfl rfl (by kernel_rfl) rfl rfl) ?_))
         rintro _ w ⟨da,rfl,hm⟩
         replace hm:=hm.lit (xs:=([aN,aO,aP]:List kJ)) 0 rfl rfl rfl rfl
         refine tAn rfl (tO (gb λdb bs=>?_))
         obtain ⟨bt,bu⟩:=kb.1 bs
         refine tf rfl rfl (λa hf=>lr 2 mG hf hm rfl (hm.ow_rep 0 rfl) rfl rfl rfl bt) ?_
         rintro bv w hm
         rw [bu] at hm
         exact tAn rfl (tP rfl (λw=>yA rfl) (tE (gZ λa hf=>⟨bv,hf.sb rfl,hm.pk [2,1] rfl rfl⟩)))
        refine gcf rfl (gS (gR (gB rfl (gA rfl (gE (gJg (λbD a w=>∃ (ag:Value),St 119 [(0,ag),(6,(pV aB)),(9,(sV aF aG body.length aD)),(10,(nV ((body.length:Int)))),(11,(nV aC))] w0 hz [ow [ag] bD,blk aB [nV aA.op,(tV aA.name),aI,aE,aH] 61] a w) (λbD=>?_) ?_))))))
        ·refine gsd 27 rfl (λbw=>?_) λbw=>?_
         ·refine gct rfl (gR (gM rfl (gF qd rfl (gL hm 0 isAgg9 rfl (gC hm rfl call19 (om _ aA.name) fun aQ dc w hm => gC hm rfl call20 (lM _ (mkS [61])) fun aR dd w hm => gf rfl (fun a hf => kS (vs := #[(0, (.agg #[nV aQ.kind, (tV aQ.text)])), (1, (.agg #[nV aR.kind, (tV aR.text)]))]) (cs := [nV aQ.kind, (tV aQ.text), nV aR.kind, (tV aR.text)]) mG hf hm rfl rfl (by kernel_rfl) rfl rfl) ?_)))))
          rintro _ w ⟨de,rfl,hm⟩
          replace hm:=hm.lit (xs:=([aQ,aR]:List kJ)) 0 rfl rfl rfl rfl
          refine gb λdf bz=>?_
          obtain ⟨cA,cC⟩:=kb.1 bz
          refine gf rfl (λa hf=>lr 2 mG hf hm rfl (hm.ow_rep 0 rfl) rfl rfl rfl cA) ?_
          rintro cD w hm
          rw [cC] at hm
          exact gA rfl (gE (gZ λa hf=>⟨cD,hf.sb rfl,hm.pk [2,1] rfl rfl⟩))
         refine gcf rfl (gS (gR (gB rfl (gA rfl (gE (gJg (λbE a w=>∃ (ah:Value),St 119 [(0,ah),(6,(pV aB)),(9,(sV aF aG body.length aD)),(10,(nV ((body.length:Int)))),(11,(nV aC))] w0 hz [ow [ah] bE,blk aB [nV aA.op,(tV aA.name),aI,aE,aH] 61] a w) (λbE=>?_) ?_))))))
         ·refine gsd 36 rfl (λcE=>?_) λcE=>?_
          ·refine gct rfl (gR (gM rfl (gC hm rfl call18 (nS _ (mkS [115, 97, 121])) fun aS dg w hm => gf rfl (fun a hf => kS (vs := #[(0, (.agg #[nV aS.kind, (tV aS.text)]))]) (cs := [nV aS.kind, (tV aS.text)]) mG hf hm rfl rfl (by kernel_rfl) rfl rfl) ?_)))
           rintro _ w ⟨dh,rfl,hm⟩
           replace hm:=hm.lit (xs:=([aS]:List kJ)) 0 rfl rfl rfl rfl
           refine gb λdi cF=>?_
           obtain ⟨cG,cH⟩:=kb.1 cF
           refine gf rfl (λa hf=>lr 2 mG hf hm rfl (hm.ow_rep 0 rfl) rfl rfl rfl cG) ?_
           rintro cI w hm
           rw [cH] at hm
           exact gA rfl (gE (gZ λa hf=>⟨cI,hf.sb rfl,hm.pk [2,1] rfl rfl⟩))
          refine gcf rfl (gS (gR (gB rfl (gA rfl (gE (gJg (λbF a w=>∃ (ai:Value),St 119 [(0,ai),(6,(pV aB)),(9,(sV aF aG body.length aD)),(10,(nV ((body.length:Int)))),(11,(nV aC))] w0 hz [ow [ai] bF,blk aB [nV aA.op,(tV aA.name),aI,aE,aH] 61] a w) (λbF=>?_) ?_))))))
          ·refine gsd 42 rfl (λcJ=>?_) λcJ=>?_
           ·refine gct rfl (gR (gM rfl (gC hm rfl call18 (nS _ (mkS [112, 117, 116])) fun aT dk w hm => gf rfl (fun a hf => kS (vs := #[(0, (.agg #[nV aT.kind, (tV aT.text)]))]) (cs := [nV aT.kind, (tV aT.text)]) mG hf hm rfl rfl (by kernel_rfl) rfl rfl) ?_)))
            rintro _ w ⟨dl,rfl,hm⟩
            replace hm:=hm.lit (xs:=([aT]:List kJ)) 0 rfl rfl rfl rfl
            refine gb λdm cK=>?_
            obtain ⟨cL,cN⟩:=kb.1 cK
            refine gf rfl (λa hf=>lr 2 mG hf hm rfl (hm.ow_rep 0 rfl) rfl rfl rfl cL) ?_
            rintro cO w hm
            rw [cN] at hm
            exact gA rfl (gE (gZ λa hf=>⟨cO,hf.sb rfl,hm.pk [2,1] rfl rfl⟩))
           refine gcf rfl (gS (gR (gB rfl (gA rfl (gE (gJg (λbG a w=>∃ (aj:Value),St 119 [(0,aj),(6,(pV aB)),(9,(sV aF aG body.length aD)),(10,(nV ((body.length:Int)))),(11,(nV aC))] w0 hz [ow [aj] bG,blk aB [nV aA.op,(tV aA.name),aI,aE,aH] 61] a w) (λbG=>?_) ?_))))))
           ·refine gsd 48 rfl (λcP=>?_) λcP=>?_
            ·refine gct rfl (gR (gM rfl (gC hm rfl call18 (nS _ (mkS [105, 102])) fun aU dp w hm => gf rfl (fun a hf => kS (vs := #[(0, (.agg #[nV aU.kind, (tV aU.text)]))]) (cs := [nV aU.kind, (tV aU.text)]) mG hf hm rfl rfl (by kernel_rfl) rfl rfl) ?_)))
             rintro _ w ⟨dq,rfl,hm⟩
             replace hm:=hm.lit (xs:=([aU]:List kJ)) 0 rfl rfl rfl rfl
             refine gb λdr cQ=>?_
             obtain ⟨cR,cS⟩:=kb.1 cQ
             refine gf rfl (λa hf=>lr 2 mG hf hm rfl (hm.ow_rep 0 rfl) rfl rfl rfl cR) ?_
             rintro cT w hm
             rw [cS] at hm
             exact gA rfl (gE (gZ λa hf=>⟨cT,hf.sb rfl,hm.pk [2,1] rfl rfl⟩))
            refine gcf rfl (gS (gR (gB rfl (gA rfl (gE (gJg (λbH a w=>∃ (ak:Value),St 119 [(0,ak),(6,(pV aB)),(9,(sV aF aG body.length aD)),(10,(nV ((body.length:Int)))),(11,(nV aC))] w0 hz [ow [ak] bH,blk aB [nV aA.op,(tV aA.name),aI,aE,aH] 61] a w) (λbH=>?_) ?_))))))
            ·refine gsd 54 rfl (λcU=>?_) λcU=>?_
             ·refine gct rfl (gR (gM rfl (gC hm rfl call18 (nS _ (mkS [108, 111, 111, 112])) fun aV dt w hm => gf rfl (fun a hf => kS (vs := #[(0, (.agg #[nV aV.kind, (tV aV.text)]))]) (cs := [nV aV.kind, (tV aV.text)]) mG hf hm rfl rfl (by kernel_rfl) rfl rfl) ?_)))
              rintro _ w ⟨du,rfl,hm⟩
              replace hm:=hm.lit (xs:=([aV]:List kJ)) 0 rfl rfl rfl rfl
              refine gb λdv cV=>?_
              obtain ⟨cW,cX⟩:=kb.1 cV
              refine gf rfl (λa hf=>lr 2 mG hf hm rfl (hm.ow_rep 0 rfl) rfl rfl rfl cW) ?_
              rintro cY w hm
              rw [cX] at hm
              exact gA rfl (gE (gZ λa hf=>⟨cY,hf.sb rfl,hm.pk [2,1] rfl rfl⟩))
             refine gcf rfl (gS (gR (gB rfl (gA rfl (gE (gJg (λbJ a w=>∃ (al:Value),St 119 [(0,al),(6,(pV aB)),(9,(sV aF aG body.length aD)),(10,(nV ((body.length:Int)))),(11,(nV aC))] w0 hz [ow [al] bJ,blk aB [nV aA.op,(tV aA.name),aI,aE,aH] 61] a w) (λbJ=>?_) ?_))))))
             ·refine gsd 60 rfl (λcZ=>?_) λcZ=>?_
              ·refine gct rfl (gR (gM rfl (gC hm rfl call18 (nS _ (mkS [98, 97, 99, 107])) fun aX dw w hm => gf rfl (fun a hf => kS (vs := #[(0, (.agg #[nV aX.kind, (tV aX.text)]))]) (cs := [nV aX.kind, (tV aX.text)]) mG hf hm rfl rfl (by kernel_rfl) rfl rfl) ?_)))
               rintro _ w ⟨dx,rfl,hm⟩
               replace hm:=hm.lit (xs:=([aX]:List kJ)) 0 rfl rfl rfl rfl
               refine gb λdy c8=>?_
               obtain ⟨c9,ca⟩:=kb.1 c8
               refine gf rfl (λa hf=>lr 2 mG hf hm rfl (hm.ow_rep 0 rfl) rfl rfl rfl c9) ?_
               rintro cb w hm
               rw [ca] at hm
               exact gA rfl (gE (gZ λa hf=>⟨cb,hf.sb rfl,hm.pk [2,1] rfl rfl⟩))
              refine gcf rfl (gS (gR (gB rfl (gA rfl (gE (gJg (λbK a w=>∃ (am:Value),St 119 [(0,am),(6,(pV aB)),(9,(sV aF aG body.length aD)),(10,(nV ((body.length:Int)))),(11,(nV aC))] w0 hz [ow [am] bK,blk aB [nV aA.op,(tV aA.name),aI,aE,aH] 61] a w) (λbK=>?_) ?_))))))
              ·refine gsd 66 rfl (λcc=>?_) λcc=>?_
               ·refine gct rfl (gR (gM rfl (gC hm rfl call18 (nS _ (mkS [100, 111])) fun aY dz w hm => gf rfl (fun a hf => kS (vs := #[(0, (.agg #[nV aY.kind, (tV aY.text)]))]) (cs := [nV aY.kind, (tV aY.text)]) mG hf hm rfl rfl (by kernel_rfl) rfl rfl) ?_)))
                rintro _ w ⟨eA,rfl,hm⟩
                replace hm:=hm.lit (xs:=([aY]:List kJ)) 0 rfl rfl rfl rfl
                refine gb λeD cd=>?_
                obtain ⟨ce,cf⟩:=kb.1 cd
                refine gf rfl (λa hf=>lr 2 mG hf hm rfl (hm.ow_rep 0 rfl) rfl rfl rfl ce) ?_
                rintro cg w hm
                rw [cf] at hm
                exact gA rfl (gE (gZ λa hf=>⟨cg,hf.sb rfl,hm.pk [2,1] rfl rfl⟩))
               exact gcf rfl (gSk (gZ λa hf=>⟨aM,hf.sb rfl,hm.pk [1,0] rfl rfl⟩))
              repeat clear hm
              rintro bK a w ⟨am,hf,hm⟩
              exact gv hf (gZ λa hf=>⟨am,hf.sb rfl,hm.pk [0,1] rfl rfl⟩)
             repeat clear hm
             rintro bJ a w ⟨al,hf,hm⟩
             exact gv hf (gZ λa hf=>⟨al,hf.sb rfl,hm.pk [0,1] rfl rfl⟩)
            repeat clear hm
            rintro bH a w ⟨ak,hf,hm⟩
            exact gv hf (gZ λa hf=>⟨ak,hf.sb rfl,hm.pk [0,1] rfl rfl⟩)
           repeat clear hm
           rintro bG a w ⟨aj,hf,hm⟩
           exact gv hf (gZ λa hf=>⟨aj,hf.sb rfl,hm.pk [0,1] rfl rfl⟩)
          repeat clear hm
          rintro bF a w ⟨ai,hf,hm⟩
          exact gv hf (gZ λa hf=>⟨ai,hf.sb rfl,hm.pk [0,1] rfl rfl⟩)
         repeat clear hm
         rintro bE a w ⟨ah,hf,hm⟩
         exact gv hf (gZ λa hf=>⟨ah,hf.sb rfl,hm.pk [0,1] rfl rfl⟩)
        repeat clear hm
        rintro bD a w ⟨ag,hf,hm⟩
        exact gv hf (gZ λa hf=>⟨ag,hf.sb rfl,hm.pk [0,1] rfl rfl⟩)
       repeat clear hm
       rintro bC a w ⟨af,hf,hm⟩
       exact gv hf (gZ λa hf=>⟨af,hf.sb rfl,hm.pk [0,1] rfl rfl⟩)
      repeat clear hm
      rintro ae a w ⟨bB,hf,hm⟩
      refine gv hf (gS (gS (gR (gF ov rfl (gL hm 1 isAgg59 rfl ?_)))))
      obtain ⟨an,aJ,rfl,eF⟩:=kT ac
      refine gY (yV nL rfl) (gM rfl (gE ?_))
      obtain ⟨cj,ck,rfl,eG⟩:=kT (hm.ow_rep 0 rfl)
      refine gBk (gNg (λbL bR a w=>∃ (ao:Value),St 119 [(0,ao),(6,(pV aB)),(9,(sV aF aG body.length aD)),(10,(nV ((body.length:Int)))),(11,(nV aC)),(73,(.slice an aA.args.length aJ)),(74,(nV ((aA.args.length:Int)))),(75,(nV bL))] w0 hz [ow [ao] bR,blk aB [nV aA.op,(tV aA.name),.slice an aA.args.length aJ,aE,aH] 61] a w) (λa hf=>⟨.slice cj ae.length ck,hf.sb rfl,hm.pk [0,1] rfl rfl⟩) ?_ ?_)
      ·repeat clear hm
       rintro _ _ bL bR a w ⟨ao,hf,hm⟩ eH eI eJ _
       refine gv hf (gS (gR (gB rfl (gE (gS (go _ 76 rfl (decide_eq_true (by omega)) (gct rfl (gSk (gS (gBk (gS (gR (gM rfl (gg λaq cl bM=>?_))))))))))))))
       obtain ⟨bS,bT,eM,he⟩:=lU ac bM
       obtain ⟨rfl,_,rfl⟩:=sl3 he
       obtain ⟨bU,cm,bV⟩:=n0 ac bM
       refine gI nL cl (lO bM) rfl (gY (yn (cm.mono hm.lez) isAgg80 sizeOf80 rfl) (gAl hm zeroValue80 rfl λbW w hm=>gA rfl (gSN hm 0 sizeOf80 (kL rfl (kL rfl (kL rfl (kL (ki bV) ke)))) rfl λw hm=>gE (gS (gS (gR (gM rfl (gB rfl (gE (gJg (λar a w=>∃ (au:Value),St 119 [(0,au),(6,(pV aB)),(8,(pV bW)),(9,(sV aF aG body.length aD)),(10,(nV ((body.length:Int)))),(11,(nV aC)),(73,(sV bS bT aA.args.length aJ)),(74,(nV ((aA.args.length:Int)))),(75,(nV bL))] w0 hz [ow [au] ar,blk aB [nV aA.op,(tV aA.name),sV bS bT aA.args.length aJ,aE,aH] 61,blk bW [nV aq.op,nV aq.n_,(tV aq.name),bU] 80] a w) (λar=>?_) ?_))))))))))
       ·refine gsd 81 rfl (λcn=>?_) λcn=>?_
        ·refine gct rfl (gR (gM rfl (gC hm rfl call20 (lM _ (mkS [44])) fun aZ eN w hm => gf rfl (fun a hf => kS (vs := #[(0, (.agg #[nV aZ.kind, (tV aZ.text)]))]) (cs := [nV aZ.kind, (tV aZ.text)]) mG hf hm rfl rfl (by kernel_rfl) rfl rfl) ?_)))
         rintro _ w ⟨eO,rfl,hm⟩
         replace hm:=hm.lit (xs:=([aZ]:List kJ)) 0 rfl rfl rfl rfl
         refine gb λeP co=>?_
         obtain ⟨cq,cr⟩:=kb.1 co
         refine gf rfl (λa hf=>lr 2 mG hf hm rfl (hm.ow_rep 0 rfl) rfl rfl rfl cq) ?_
         rintro ct w hm
         rw [cr] at hm
         exact gA rfl (gE (gZ λa hf=>⟨ct,hf.sb rfl,hm.pk [2,3,1] rfl rfl⟩))
        exact gcf rfl (gSk (gZ λa hf=>⟨ao,hf.sb rfl,hm.pk [1,2,0] rfl rfl⟩))
       repeat clear hm
       rintro ar a w ⟨au,hf,hm⟩
       refine gv hf (gR (gM rfl (gY (yn (hm.blk_at 2 rfl) isAgg80 sizeOf80 rfl) ?_)))
       obtain ⟨cu,hle,hm1,hsub,cv⟩:=hm.take2 (L1:=[_]) (L2:=[_,_]) [0] [1,2] (by decide) rfl rfl
       refine gCg rfl call92 (xQ _ cu ar au aq bU (GT.mono hle bV) false hm1 (GT.mono hle hG1) (GT.mono hle hG6)) ?_
       rintro eR eS cw w ⟨_,rfl,hB⟩
       replace hm:=cv _ _ hB;clear hB
       exact gA rfl (gE (gR (gP (by omega) (by omega) rfl (gM rfl (gE (gZe λa hf=>⟨cw,hf.sb rfl,hm.pk [0,1] rfl rfl⟩))))))
      repeat clear hm
      rintro eT bX a w ⟨bN,hf,hm⟩ eU eV
      refine gv hf (gS (gR (gB rfl (gE (gS (go _ 76 rfl (decide_eq_false (by omega)) (gcf rfl (gXt (gHh (gS (gS (gJ hm (λav=>[(0,bN),(6,(pV aB)),(9,(sV aF aG body.length aD)),(10,(nV ((body.length:Int)))),(11,(nV aC)),(97,(.bool (av)))]) (λav=>[ow [bN] bX,blk aB [nV aA.op,(tV aA.name),.slice an aA.args.length aJ,aE,aH] 61]) (λav=>?_) ?_))))))))))))
      ·refine gR (gF oT rfl (gL hm 1 isAgg3 rfl (gB rfl (gM rfl (gsd 93 rfl (λcx=>?_) λcx=>?_)))))
       ·exact gF oT rfl (gL hm 1 isAgg3 rfl (gB rfl (gKt rfl (gE (gz hm [0,1] rfl)))))
       exact gO rfl (gO rfl (gO rfl (gKf rfl (gE (gz hm [0,1] rfl)))))
      repeat clear hm
      intro av w hm
      refine gs 97 rfl (λcy=>?_) λcy=>?_
      ·refine gct rfl (gS (gR (gM rfl (gC hm rfl call20 (lM _ (mkS [59])) fun a8 eW w hm => gf rfl (fun a hf => kS (vs := #[(0, (.agg #[nV a8.kind, (tV a8.text)]))]) (cs := [nV a8.kind, (tV a8.text)]) mG hf hm rfl rfl (by kernel_rfl) rfl rfl) ?_))))
       rintro _ w ⟨eX,rfl,hm⟩
       replace hm:=hm.lit (xs:=([a8]:List kJ)) 0 rfl rfl rfl rfl
       refine gb λeY cz=>?_
       obtain ⟨dA,dB⟩:=kb.1 cz
       refine gf rfl (λa hf=>lr 1 mG hf hm rfl (hm.ow_rep 0 rfl) rfl rfl rfl dA) ?_
       rintro dC w hm
       rw [dB] at hm
       exact gA rfl (gE (gXt (gHh (gZ λa hf=>⟨dC,hf.sb rfl,hm.pk [1] rfl rfl⟩))))
      refine gcf rfl (gSk (gS (gR (gM rfl (gF qf rfl (gL hm 1 isAgg43 rfl ?_))))))
      obtain ⟨dD,hle,hm1,hsub,dE⟩:=hm.take2 (L1:=[_]) (L2:=[_]) [0] [1] (by decide) rfl rfl
      refine gCg rfl call21 (impl_blockWords_rec _ dD bX bN aA.body aE (GT.mono hle bQ) hm1 (GT.mono hle hG1) (GT.mono hle hG6)) ?_
      rintro eZ ec dF w ⟨_,rfl,hB⟩
      replace hm:=dE _ _ hB;clear hB
      refine gA rfl (gE (gS (gR (gF qJ rfl (gL hm 1 isAgg43 rfl ?_)))))
      obtain ⟨bY,bZ,rfl,ed⟩:=kT bA
      refine gY (yV pI rfl) (gB rfl (gE (gJg (λbO a w=>∃ (aw:Value),St 119 [(0,aw),(9,(sV aF aG body.length aD)),(10,(nV ((body.length:Int)))),(11,(nV aC))] w0 hz [ow [aw] bO] a w) (λbO=>?_) ?_)))
      ·refine gsd 109 rfl (λdG=>?_) λdG=>?_
       ·refine gct rfl (gW (.p 0 (.p 4 (.q 5 (.e 1 (.e 2 (.e 3 (.e 6 (.p 7 .fin) .nil) .nil) .nil) .nil)))) [1, 2, 3] [0, 4, 7] hm [1] [blk aB [nV aA.op, (tV aA.name), .slice an aA.args.length aJ, aE, .slice bY aA.else_.length bZ] 61] rfl mxo (by kernel_rfl) (fun _ _ _ h => h.2) fun w hm hS => tP rfl (fun w => yM rfl) (tP rfl (fun w => yF qJ rfl) (tQ rfl hS (fun w hm => yL hm 0 isAgg43 rfl) (tO (gb fun aa dH => tf rfl rfl (fun a hf => lK hf rfl call18 rfl (nS _ (mkS [101, 108, 115, 101]) _ dH)) ?_)))))
        rintro ee w ⟨rfl,hB⟩
        replace hm:=hm.below' hB;clear hB
        refine tAk hm [1] rfl λhS=>tO (tf rfl rfl (λa hf=>kS (vs:=#[(0,(.agg #[nV aa.kind,(tV aa.text)]))]) (cs:=[nV aa.kind,(tV aa.text)]) mG hf hm rfl rfl (by kernel_rfl) rfl rfl) ?_)
        rintro _ w ⟨ef,rfl,hm⟩
        replace hm:=hm.lit (xs:=([aa]:List kJ)) 0 rfl rfl rfl rfl
        refine tAk hm [2] rfl λhS=>tO (gb λdI dJ=>?_)
        obtain ⟨dK,dL⟩:=kb.1 dJ
        refine tf rfl rfl (λa hf=>lr 1 mG hf hm rfl (hm.ow_rep 0 rfl) rfl rfl rfl dK) ?_
        rintro dM w hm
        rw [dL] at hm
        refine tAk hm [2] rfl λhS=>tO (gb λeh dN=>?_)
        obtain ⟨dO,hle,hm1,hsub,dP⟩:=hm.take2 (L1:=[_]) (L2:=[_,_]) [1] [0,2] (by decide) rfl rfl
        refine tf rfl rfl (λa hf=>lK hf rfl call21 rfl (impl_blockWords_rec _ dO dI dM aA.else_ (.slice bY aA.else_.length bZ) (GT.mono hle bA) hm1 (GT.mono hle hG1) (GT.mono hle hG6) _ dN)) ?_
        rintro dQ w ⟨_,rfl,hB⟩
        replace hm:=dP _ _ hB;clear hB
        exact tAn rfl (tP rfl (λw=>yA rfl) (tE (gZ λa hf=>⟨dQ,hf.sb rfl,hm.pk [0] rfl rfl⟩)))
       exact gcf rfl (gSk (gZ λa hf=>⟨dF,hf.sb rfl,hm.pk [0] rfl rfl⟩))
      repeat clear hm
      rintro bO a w ⟨aw,hf,hm⟩
      exact gv hf (gZ λa hf=>⟨aw,hf.sb rfl,hm.pk [0] rfl rfl⟩)
     repeat clear hm
     rintro ay a w ⟨ab,hf,hm⟩
     exact gv hf (gR (gP (by omega) (by omega) rfl (gM rfl (gE (gZe λa hf=>⟨ab,hf.sb rfl,hm.pk [0] rfl rfl⟩)))))
    repeat clear hm
    rintro ei ej a w ⟨dR,hf,hm⟩ ek el
    exact gv hf (gS (gR (gB rfl (gE (gS (go _ 12 rfl (decide_eq_false (by omega)) (gcf rfl (gXt (gHh (gS (gR (gM rfl (gA rfl (gE (gRt (gr1 results54 rfl ⟨dR,rfl,hm.pk [0] rfl rfl⟩))))))))))))))))
theorem w4 (w0:World) (hz:kX) (list:List kJ) (v1:Value) (body:List kN) (v2:Value) (h2:GT.rep hz [v2] body) (hm0:Mem w0 hz w0 [ow [v1] list]) (hG1:GT.rep hz [.slice (some ⟨1,0,none⟩) 1 1] [kO]) (hG6:GT.rep hz [.pointer (some ⟨6,0,none⟩)] lB) (r:(List kJ)) (hq:lx list body=some r):Con Tryz.prog 21 [v1,v2] w0 (λv w'=>∃ (x1:Value),v=x1∧Mem w0 hz w' [ow [x1] r]):=(wL ).1 list body r hq w0 hz v1 v2 h2 hm0 hG1 hG6
theorem qs (w0:World) (b_:UInt8) :
    mE Tryz.prog 48 [(.int .u8 ((b_).toNat:Int))] w0 (nD b_) λr v w'=>v=(.bool (r))∧Below w0.heap.size w0 w':=by
  unfold nD
  refine mR func48 rfl λr=>?_
  have hm:=Mem.start w0
  refine gS (gR (gA rfl (gE (gS (gJ hm (λaA=>[(2,(.bool (aA)))]) (λaA=>[]) (λaA=>?_) ?_)))))
  ·refine gR (gM rfl (gY (yG rfl (xd (b:=(48:UInt8)) (c:=b_) rfl rfl rfl)) (gM rfl (gsd 5 rfl (λaB=>?_) λaB=>?_))))
   ·exact gM rfl (gY (yG rfl (xd (b:=b_) (c:=(57:UInt8)) rfl rfl rfl)) (gKt rfl (gA rfl (gE (gz hm [] rfl)))))
   exact gO rfl (gO rfl (gKf rfl (gA rfl (gE (gz hm [] rfl)))))
  repeat clear hm
  intro aA w hm
  exact gRt (gr1 results48 rfl ⟨rfl,hm.below⟩)
theorem ya (w0:World) (s_:Str) :
    mE Tryz.prog 117 [(tV s_)] w0 (strconv_Atoi s_) λr v w'=>v=(.tuple #[nV r.1,.nilIface])∧Below w0.heap.size w0 w':=bd8 lays172 w0 s_
theorem uc (w0:World) (s_:Str) (most:Int) :
    mE Tryz.prog 88 [(tV s_),nV most] w0 (qg s_ most) λr v w'=>v=(nV r)∧Below w0.heap.size w0 w':=by
  unfold qg
  refine mR func88 rfl λr=>?_
  have hm:=Mem.start w0
  refine gS (gR (gA rfl (gE (gS (gS (gJ hm (λaA=>[(0,(tV s_)),(1,(nV most)),(24,(.bool (aA)))]) (λaA=>[]) (λaA=>?_) ?_))))))
  ·refine gR (gM rfl (gY (yG rfl (tG (p:=s_) (q:=(mkS [])) rfl rfl rfl)) (gM rfl (gsd 10 rfl (λaD=>?_) λaD=>?_))))
   ·exact gO rfl (gO rfl (gO rfl (gKt rfl (gM rfl (gO rfl (gO rfl (gO rfl (gO rfl (gO rfl (gO rfl (gO rfl (gO rfl (gKt rfl (gE (gz hm [] rfl)))))))))))))))
   refine gM rfl (gY (yG rfl (mD (p:=s_) underlying9 rfl rfl)) ?_)
   have aR:=(s_).h
   refine gB rfl (gKf rfl (gM rfl (gsd 15 rfl (λaE=>?_) λaE=>?_)))
   ·exact gO rfl (gO rfl (gO rfl (gO rfl (gO rfl (gO rfl (gO rfl (gO rfl (gKt rfl (gE (gz hm [] rfl))))))))))
   refine gM rfl (gY (yG rfl (mD (p:=s_) underlying9 rfl rfl)) (gB rfl (gM rfl (gsd 19 rfl (λaF=>?_) λaF=>?_))))
   ·exact gM rfl (gg λaG aH aI=>gY (yG rfl (mo (p:=s_) underlying9 rfl rfl rfl aH aI)) (gY (yG rfl (uy (b:=aG) (c:=(48:UInt8)) rfl rfl rfl)) (gKt rfl (gKf rfl (gE (gz hm [] rfl))))))
   exact gO rfl (gO rfl (gO rfl (gKf rfl (gKf rfl (gE (gz hm [] rfl))))))
  repeat clear hm
  intro aA w hm
  refine gs 24 rfl (λaJ=>?_) λaJ=>?_
  ·exact gct rfl (gS (gR (gA rfl (gE (gRt (gr1 results88 rfl ⟨rfl,hm.below⟩))))))
  refine gcf rfl (gSk (gS (gS (gR (gM rfl (gY (yG rfl (mD (p:=s_) underlying9 rfl rfl)) ?_))))))
  have aS:=(s_).h
  refine gM rfl (gE (gBk (gNf hm (λaB aC=>[(0,(tV s_)),(1,(nV most)),(26,(nV (((s_).b.length:Int)))),(27,(nV aB))]) (λaB aC=>[]) [] rfl ?_ ?_)))
  ·repeat clear hm
   intro aT aK aB aC w hm aU aV aX aL
   refine gS (gR (gB rfl (gE (gS (go _ 28 rfl (decide_eq_true (by omega)) (gct rfl (gSk (gS (gBk (gS (gR (gM rfl (gA rfl (gE (gS (gR (gM rfl (gM rfl (gg λaM aN aO=>gY (yG rfl (mo (p:=s_) underlying9 rfl rfl rfl aN aO)) (gC hm rfl call48 (qs _ aM) λaY aZ w hm=>gN rfl (gE (gsn 34 rfl (λaP=>?_) λaP=>?_))))))))))))))))))))))
   ·exact gct rfl (gS (gR (gA rfl (gE (gRt (gLr aL aK (gr1 results88 rfl ⟨rfl,hm.below⟩)))))))
   exact gcf rfl (gSk (gR (gP (by omega) (by omega) rfl (gM rfl (gE (gze hm [] rfl))))))
  repeat clear hm
  intro a8 aa w hm ab ac
  refine gS (gR (gB rfl (gE (gS (go _ 28 rfl (decide_eq_false (by omega)) (gcf rfl (gXt (gHh (gS (gR (gM rfl (gC hm rfl call117 (ya _ s_) λae af w hm=>gM rfl (gX rfl (gX rfl (gA rfl (gA rfl (gE (gS (gS (gR (gM rfl (gM rfl (gB rfl (gE (gsd 43 rfl (λaQ=>?_) λaQ=>?_)))))))))))))))))))))))))
  ·exact gct rfl (gS (gR (gA rfl (gE (gRt (gr1 results88 rfl ⟨rfl,hm.below⟩))))))
  exact gcf rfl (gSk (gS (gR (gM rfl (gA rfl (gE (gRt (gr1 results88 rfl ⟨rfl,hm.below⟩))))))))
theorem wN (w0:World) (s_:Str) (substr:Str) :
    mE Tryz.prog 89 [(tV s_),(tV substr)] w0 (q8 s_ substr) λr v w'=>v=(.bool (r))∧Below w0.heap.size w0 w':=ag1 lays144 w0 s_ substr
theorem sq (w0:World) (w_:kJ) (hG0:GT.rep (hp w0) [.slice (some ⟨0,0,none⟩) 9 9] k7) :
    mE Tryz.prog 50 [(.agg #[nV w_.kind,(tV w_.text)])] w0 (oM w_) λr v w'=>v=(.bool (r))∧Below w0.heap.size w0 w':=by
  unfold oM
  refine mR func50 rfl λr=>?_
  have hm:=Mem.start w0
  refine gS (gR (gBx hm rfl λaB w hm=>gA rfl (gE (gS (gS (gR (gF sN rfl (gL hm 0 isAgg3 rfl (gE (gBk (gS (gR (gB rfl (gA rfl (gE (gsd 5 rfl (λaC=>?_) λaC=>?_))))))))))))))))
  ·exact gct rfl (gS (gR (gF o8 rfl (gL hm 0 isAgg9 rfl (gC hm rfl call33 (pY _ w_.text (hm.now hG0)) λaI aJ w hm=>gA rfl (gE (gRt (gr1 results50 rfl ⟨rfl,hm.below⟩))))))))
  refine gcf rfl (gS (gR (gB rfl (gA rfl (gE (gsd 10 rfl (λaD=>?_) λaD=>?_))))))
  ·exact gct rfl (gS (gR (gF o8 rfl (gL hm 0 isAgg9 rfl (gC hm rfl call88 (uc _ w_.text 255) λaK aL w hm=>gB rfl (gA rfl (gE (gRt (gr1 results50 rfl ⟨rfl,hm.below⟩)))))))))
  refine gcf rfl (gS (gR (gB rfl (gA rfl (gE (gsd 16 rfl (λaE=>?_) λaE=>?_))))))
  ·refine gct rfl (gS (gJ hm (λaA=>[(2,(.bool (aA)))]) (λaA=>[]) (λaA=>?_) ?_))
   ·refine gR (gF o8 rfl (gL hm 0 isAgg9 rfl (gY (yG rfl (mD (p:=w_.text) underlying9 rfl rfl)) ?_)))
    have aM:=(w_.text).h
    refine gB rfl (gM rfl (gsd 22 rfl (λaF=>?_) λaF=>?_))
    ·exact gF o8 rfl (gL hm 0 isAgg9 rfl (gC hm rfl call89 (wN _ (mkS [40,41,123,125,59,44,43,45,42,47,37,60,61,38,33,64]) w_.text) λaN aO w hm=>gKt rfl (gA rfl (gE (gz hm [] rfl)))))
    exact gO rfl (gO rfl (gO rfl (gKf rfl (gA rfl (gE (gz hm [] rfl))))))
   repeat clear hm
   intro aA w hm
   exact gRt (gr1 results50 rfl ⟨rfl,hm.below⟩)
  refine gcf rfl (gS (gR (gB rfl (gA rfl (gE (gsd 27 rfl (λaG=>?_) λaG=>?_))))))
  ·refine gct rfl (gS (gW (.p 0 (.p 1 (.e 2 (.e 3 (.p 4 .fin) .nil) .nil))) [] [0, 1, 4] hm [0] [blk aB [nV w_.kind, (tV w_.text)] 47] rfl mxo (by kernel_rfl) (fun _ _ _ h => h.2) fun w hm hS => tP rfl (fun w => yG rfl (zd (n := 9) underlying100 rfl rfl sizeOf9)) (tP rfl (fun w => yF o8 rfl) (tO (tY rfl (yL hm 0 isAgg9 rfl) (tAn rfl (tO (gb fun aP aH => tf rfl rfl (fun a hf => lK hf rfl call69 rfl (nX _ k7 (sV 0 0 9 9) (hm.now hG0) w_.text _ aH)) ?_))))))))
   rintro aQ w ⟨rfl,hB⟩
   replace hm:=hm.below' hB;clear hB
   exact tAn rfl (tP rfl (λw=>yA rfl) (tE (gRt (gr1 results50 rfl ⟨rfl,hm.below⟩))))
  exact gcf rfl (gSk (gS (gR (gA rfl (gE (gRt (gr1 results50 rfl ⟨rfl,hm.below⟩)))))))
theorem yo (w0:World) (elems:List Str) (v1:Value) (h1:GT.rep (hp w0) [v1] elems) (sep:Str) :
    mE Tryz.prog 55 [v1,(tV sep)] w0 (strings_Join elems sep) λr v w'=>v=(tV r)∧Below w0.heap.size w0 w':=bc4 lays156 bx w0 elems v1 h1 sep
theorem ss (w0:World) (list:List kJ) (v1:Value) (h1:GT.rep (hp w0) [v1] list) (hG0:GT.rep (hp w0) [.slice (some ⟨0,0,none⟩) 9 9] k7) :
    mE Tryz.prog 22 [v1] w0 (ou list) λr v w'=>v=(.tuple #[(tV r.1),(.bool (r.2))])∧Below w0.heap.size w0 w':=by
  unfold ou
  refine mR func22 rfl λr=>?_
  have hm:=Mem.start w0
  refine gS (gR (gA rfl (gA rfl (gE (gS (gS (gR (gM rfl ?_))))))))
  obtain ⟨aK,aL,rfl,aY⟩:=kT h1
  refine gY (yV rU rfl) (gB rfl (gE (gsd 10 rfl (λaM=>?_) λaM=>?_)))
  ·exact gct rfl (gS (gR (gA rfl (gA rfl (gE (gRt (gr2 results22 rfl ⟨rfl,hm.below⟩)))))))
  refine gcf rfl (gSk (gS (gR (gM rfl (gY (yV rU rfl) (gb λaB aN=>?_))))))
  obtain ⟨⟨aO,aP⟩,aI⟩:=am9.1 aN
  refine gf rfl (λa hf=>bx8 (x0:=((mkS []):Str)) ox (λ_=>(Flat.own_iff.2 rfl)) hf hm rfl rfl rfl aO (Int.le_refl _) aP) ?_
  rintro aZ w hm
  rw [aI] at hm
  have h0_2l:(aB.length:Int)=(list.length:Int):=by rw [← aI];simp only [List.length_replicate];omega
  refine gA rfl (gE (gS (gS (gR (gM rfl (gY (yV rU rfl) (gM rfl (gE ?_))))))))
  obtain ⟨aD,aE,rfl,a8⟩:=kT (hm.ow_rep 0 rfl)
  refine gBk (gNf hm (λaF aG=>[(4,(.slice aD aB.length aE)),(14,(.slice aK list.length aL)),(15,(nV ((list.length:Int)))),(16,(nV aF))]) (λaF aG=>[ow [.slice aD aB.length aE] aG]) [0] rfl ?_ ?_)
  ·repeat clear hm
   intro aa aQ aF aG w hm ab ac ae aR
   refine gS (gR (gB rfl (gE (gS (go _ 17 rfl (decide_eq_true (by omega)) (gct rfl (gSk (gS (gBk (gS (gR (gM rfl (gg λaA aS aH=>?_)))))))))))))
   obtain ⟨af,ag,ah,he⟩:=nb h1 aH
   obtain ⟨rfl,_,rfl⟩:=sl3 he
   refine gI rU aS (lO aH) rfl (gY (yn (lj (cs:=[nV aA.kind,(tV aA.text)]) (hm.now h1) aH rfl) isAgg47 sizeOf47 rfl) (gAl hm zeroValue47 rfl λai w hm=>gA rfl (gSN hm 0 sizeOf47 (kL rfl (kL rfl ke)) rfl λw hm=>gE (gS (gS (gR (gY (yn (hm.blk_at 0 rfl) isAgg47 sizeOf47 rfl) (gC hm rfl call50 (sq _ aA (hm.now hG0)) λaj ak w hm=>gN rfl (gE (gsn 23 rfl (λaT=>?_) λaT=>?_))))))))))
   ·exact gct rfl (gS (gR (gA rfl (gA rfl (gE (gRt (gLr aR aQ (gr2 results22 rfl ⟨rfl,hm.below⟩))))))))
   refine gcf rfl (gSk (gR (gM rfl (gM rfl (gF o8 rfl (gL hm 0 isAgg9 rfl (gg λal aU aC=>?_)))))))
   obtain ⟨am,an,ao,he⟩:=nb (hm.ow_rep 1 rfl) aC
   obtain ⟨rfl,_,rfl⟩:=sl3 he
   have hL1_1:=ab5 (hm.ow_rep 1 rfl)
   refine gI oG aU (bp4 aC hL1_1) rfl (gf0 rfl (λa hf=>az0 (x1:=aA.text) (j:=0) (vs:=[(tV aA.text)]) 1 hf hm rfl aC rfl sizeOf9 rfl rfl rfl (kL rfl ke) rfl rfl) ?_)
   rintro _ w hm
   have aq:=List.getElem?_set_self (a:=aA.text) (lO aC)
   exact gE (gR (gP (by omega) (by omega) rfl (gM rfl (gE (gze hm [1] rfl)))))
  repeat clear hm
  intro ar aV w hm au av
  refine gS (gR (gB rfl (gE (gS (go _ 17 rfl (decide_eq_false (by omega)) (gcf rfl (gXt (gHh (gS (gR (gM rfl (gC hm rfl call55 (yo _ aV (.slice aD aB.length aE) (hm.ow_rep 0 rfl) (mkS [32])) λaJ aw w hm=>gA rfl (gE (gS (gS (gR (gM rfl (gY (yG rfl (mD (p:=aJ) underlying9 rfl rfl)) ?_))))))))))))))))))
  have ax:=(aJ).h
  refine gB rfl (gE (gsd 34 rfl (λaX=>?_) λaX=>?_))
  ·exact gct rfl (gS (gR (gA rfl (gA rfl (gE (gRt (gr2 results22 rfl ⟨rfl,hm.below⟩)))))))
  exact gcf rfl (gSk (gS (gR (gM rfl (gA rfl (gA rfl (gE (gRt (gr2 results22 rfl ⟨rfl,hm.below⟩)))))))))
theorem sJ (w0:World) (p_:kp) (v1:Value) (h1:GT.rep (hp w0) [v1] p_.fns) (hG0:GT.rep (hp w0) [.slice (some ⟨0,0,none⟩) 9 9] k7) (hG1:GT.rep (hp w0) [.slice (some ⟨1,0,none⟩) 1 1] [kO]) (hG6:GT.rep (hp w0) [.pointer (some ⟨6,0,none⟩)] lB) :
    mE Tryz.prog 6 [(.agg #[v1])] w0 (mh p_) λr v w'=>v=(.tuple #[(tV r.1),(.bool (r.2))])∧Below w0.heap.size w0 w':=by
  unfold mh
  refine mR func6 rfl λr=>?_
  have hm:=Mem.start w0
  refine gS (gR (gBx hm rfl λbS w hm=>gA rfl (gA rfl (gE (gS (gS (gR (gY (yn (hm.blk_at 0 rfl) isAgg25 sizeOf25 rfl) (gC hm rfl call11 (qZ _ p_ v1 (hm.now h1) (hm.now hG0) (hm.now hG1)) λbT bU w hm=>gN rfl (gE (gsn 11 rfl (λae=>?_) λae=>?_)))))))))))
  ·exact gct rfl (gS (gR (gA rfl (gA rfl (gE (gRt (gr2 results6 rfl ⟨rfl,hm.below⟩)))))))
  refine gcf rfl (gSk (gS (gR (gA rfl (gE (gS (gS (gR (gF nu rfl (gL hm 0 isAgg23 rfl ?_))))))))))
  obtain ⟨af,aO,rfl,bV⟩:=kT h1
  refine gY (yV nz rfl) (gM rfl (gE (gBk ?_)))
  replace hm:=hm.nilow (α:=kJ)
  refine gNg (λaK aP a w=>∃ (aL:Value),St 59 [(4,aL),(13,(.slice af p_.fns.length aO)),(14,(nV ((p_.fns.length:Int)))),(15,(nV aK))] w0 (hp w0) [ow [aL] aP] a w) (λa hf=>⟨.slice none 0 0,hf.sb rfl,hm.pk [0] rfl rfl⟩) ?_ ?_
  ·repeat clear hm
   rintro _ _ aK aP a w ⟨aL,hf,hm⟩ bW bX bY _
   refine gv hf (gS (gR (gB rfl (gE (gS (go _ 16 rfl (decide_eq_true (by omega)) (gct rfl (gSk (gS (gBk (gS (gR (gg λaA ag aQ=>?_)))))))))))))
   obtain ⟨aY,aZ,bZ,he⟩:=lU h1 aQ
   obtain ⟨rfl,_,rfl⟩:=sl3 he
   obtain ⟨ah,aC,ai,aM,a8⟩:=sH h1 aQ
   refine gI nz ag (lO aQ) rfl (gY (yn (ai.mono hm.lez) isAgg45 sizeOf45 rfl) (gAl hm zeroValue45 rfl λaB w hm=>gSN hm 0 sizeOf45 (kL rfl (kL (ki aM) (kL (ki a8) ke))) rfl λw hm=>gE (gS (gW (.p 0 (.p 2 (.q 3 (.e 1 (.e 4 (.e 5 (.e 6 (.e 7 (.p 8 .fin) .nil) .nil) .nil) .nil) .nil)))) [1] [0,2,8] hm [0,1] [blk aB [(tV aA.name),ah,aC] 45,ow [aL] aP] rfl mxo (by kernel_rfl) (λ_ _ _ h=>h.2) λw hm hS=>tP rfl (λw=>yM rfl) (tP rfl (λw=>yF sn rfl) (tQ rfl hS (λw hm=>yL hm 0 isAgg9 rfl) (tO (gb λaD aj=>tf rfl rfl (λa hf=>lK hf rfl call18 rfl (nS _ (mkS [102,110]) _ aj)) ?_))))))))
   rintro b8 w ⟨rfl,hB⟩
   replace hm:=hm.below' hB;clear hB
   refine tAk hm [0,1] rfl λhS=>tO (gb λaE ak=>tf rfl rfl (λa hf=>lK hf rfl call19 rfl (om _ aA.name _ ak)) ?_)
   rintro b9 w ⟨rfl,hB⟩
   replace hm:=hm.below' hB;clear hB
   refine tAn rfl (tO (gb λaF al=>tf rfl rfl (λa hf=>lK hf rfl call20 rfl (lM _ (mkS [40]) _ al)) ?_))
   rintro ba w ⟨rfl,hB⟩
   replace hm:=hm.below' hB;clear hB
   refine tAn rfl (tO (tf rfl rfl (λa hf=>kS (vs:=#[(0,(.agg #[nV aD.kind,(tV aD.text)])),(1,(.agg #[nV aE.kind,(tV aE.text)])),(2,(.agg #[nV aF.kind,(tV aF.text)]))]) (cs:=[nV aD.kind,(tV aD.text),nV aE.kind,(tV aE.text),nV aF.kind,(tV aF.text)]) mG hf hm rfl rfl (by kernel_rfl) rfl rfl) ?_))
   rintro _ w ⟨bb,rfl,hm⟩
   replace hm:=hm.lit (xs:=([aD,aE,aF]:List kJ)) 0 rfl rfl rfl rfl
   refine tAn rfl (tO (gb λam an=>?_))
   obtain ⟨ao,aq⟩:=kb.1 an
   refine tf rfl rfl (λa hf=>lr 2 mG hf hm rfl (hm.ow_rep 0 rfl) rfl rfl rfl ao) ?_
   rintro bc w hm
   rw [aq] at hm
   refine tAn rfl (tP rfl (λw=>yA rfl) (tE (gS (gS (gR (gF o6 rfl (gL hm 1 isAgg42 rfl ?_)))))))
   obtain ⟨aR,aG,rfl,bd⟩:=kT aM
   refine gY (yV oG rfl) (gM rfl (gE ?_))
   obtain ⟨ar,au,rfl,be⟩:=kT (hm.ow_rep 2 rfl)
   refine gBk (gNg (λaS aa a w=>∃ (aN:Value),St 59 [(4,aN),(6,(pV aB)),(13,(sV aY aZ p_.fns.length aO)),(14,(nV ((p_.fns.length:Int)))),(15,(nV aK)),(28,(.slice aR aA.params.length aG)),(29,(nV ((aA.params.length:Int)))),(30,(nV aS))] w0 (hp w0) [ow [aN] aa,blk aB [(tV aA.name),.slice aR aA.params.length aG,aC] 45] a w) (λa hf=>⟨.slice ar am.length au,hf.sb rfl,hm.pk [2,1] rfl rfl⟩) ?_ ?_)
   ·repeat clear hm
    rintro _ _ aS aa a w ⟨aN,hf,hm⟩ bf bg bh _
    refine gv hf (gS (gR (gB rfl (gE (gS (go _ 31 rfl (decide_eq_true (by omega)) (gct rfl (gSk (gS (gBk (gS (gR (gM rfl (gg λaT av aU=>?_))))))))))))))
    obtain ⟨ab,ac,bi,he⟩:=nb aM aU
    obtain ⟨rfl,_,rfl⟩:=sl3 he
    refine gI oG av (lO aU) rfl (gY (yl isAgg9 ((lj (cs:=[(tV aT)]) (hm.now aM) aU rfl).cell (j:=0) rfl) rfl) (gA rfl (gA rfl (gE (gS (gS (gR (gM rfl (gB rfl (gE (gJg (λaV a w=>∃ (aX:Value),St 59 [(4,aX),(6,(pV aB)),(8,(tV aT)),(13,(sV aY aZ p_.fns.length aO)),(14,(nV ((p_.fns.length:Int)))),(15,(nV aK)),(28,(sV ab ac aA.params.length aG)),(29,(nV ((aA.params.length:Int)))),(30,(nV aS))] w0 (hp w0) [ow [aX] aV,blk aB [(tV aA.name),sV ab ac aA.params.length aG,aC] 45] a w) (λaV=>?_) ?_)))))))))))
    ·refine gsd 36 rfl (λaw=>?_) λaw=>?_
     ·refine gct rfl (gR (gM rfl (gC hm rfl call20 (lM _ (mkS [44])) fun aH bj w hm => gf rfl (fun a hf => kS (vs := #[(0, (.agg #[nV aH.kind, (tV aH.text)]))]) (cs := [nV aH.kind, (tV aH.text)]) mG hf hm rfl rfl (by kernel_rfl) rfl rfl) ?_)))
      rintro _ w ⟨bk,rfl,hm⟩
      replace hm:=hm.lit (xs:=([aH]:List kJ)) 0 rfl rfl rfl rfl
      refine gb λbl ax=>?_
      obtain ⟨ay,az⟩:=kb.1 ax
      refine gf rfl (λa hf=>lr 1 mG hf hm rfl (hm.ow_rep 0 rfl) rfl rfl rfl ay) ?_
      rintro bA w hm
      rw [az] at hm
      exact gA rfl (gE (gZ λa hf=>⟨bA,hf.sb rfl,hm.pk [1,2] rfl rfl⟩))
     exact gcf rfl (gSk (gZ λa hf=>⟨aN,hf.sb rfl,hm.pk [0,1] rfl rfl⟩))
    repeat clear hm
    rintro aV a w ⟨aX,hf,hm⟩
    refine gv hf (gR (gM rfl (gM rfl (gC hm rfl call19 (om _ aT) λaI bm w hm=>gf rfl (λa hf=>kS (vs:=#[(0,(.agg #[nV aI.kind,(tV aI.text)]))]) (cs:=[nV aI.kind,(tV aI.text)]) mG hf hm rfl rfl (by kernel_rfl) rfl rfl) ?_))))
    rintro _ w ⟨bo,rfl,hm⟩
    replace hm:=hm.lit (xs:=([aI]:List kJ)) 0 rfl rfl rfl rfl
    refine gb λbp bB=>?_
    obtain ⟨bC,bD⟩:=kb.1 bB
    refine gf rfl (λa hf=>lr 1 mG hf hm rfl (hm.ow_rep 0 rfl) rfl rfl rfl bC) ?_
    rintro bE w hm
    rw [bD] at hm
    exact gA rfl (gE (gR (gP (by omega) (by omega) rfl (gM rfl (gE (gZe λa hf=>⟨bE,hf.sb rfl,hm.pk [1,2] rfl rfl⟩))))))
   repeat clear hm
   rintro bq br a w ⟨bs,hf,hm⟩ bt bu
   refine gv hf (gS (gR (gB rfl (gE (gS (go _ 31 rfl (decide_eq_false (by omega)) (gcf rfl (gXt (gHh (gW (.p 0 (.p 4 (.q 5 (.e 1 (.e 2 (.e 3 (.e 6 (.p 7 .fin) .nil) .nil) .nil) .nil)))) [1,2,3] [0,4,7] hm [1] [blk aB [(tV aA.name),.slice aR aA.params.length aG,aC] 45] rfl mxo (by kernel_rfl) (λ_ _ _ h=>h.2) λw hm hS=>tP rfl (λw=>yM rfl) (tP rfl (λw=>yF oE rfl) (tQ rfl hS (λw hm=>yL hm 0 isAgg43 rfl) (tO (gb λaJ bF=>tf rfl rfl (λa hf=>lK hf rfl call20 rfl (lM _ (mkS [41]) _ bF)) ?_))))))))))))))
   rintro bv w ⟨rfl,hB⟩
   replace hm:=hm.below' hB;clear hB
   refine tAk hm [1] rfl λhS=>tO (tf rfl rfl (λa hf=>kS (vs:=#[(0,(.agg #[nV aJ.kind,(tV aJ.text)]))]) (cs:=[nV aJ.kind,(tV aJ.text)]) mG hf hm rfl rfl (by kernel_rfl) rfl rfl) ?_)
   rintro _ w ⟨bw,rfl,hm⟩
   replace hm:=hm.lit (xs:=([aJ]:List kJ)) 0 rfl rfl rfl rfl
   refine tAk hm [2] rfl λhS=>tO (gb λbG bH=>?_)
   obtain ⟨bJ,bK⟩:=kb.1 bH
   refine tf rfl rfl (λa hf=>lr 1 mG hf hm rfl (hm.ow_rep 0 rfl) rfl rfl rfl bJ) ?_
   rintro bL w hm
   rw [bK] at hm
   refine tAk hm [2] rfl λhS=>tO (gb λbz bM=>?_)
   obtain ⟨bN,hle,hm1,hsub,bO⟩:=hm.take2 (L1:=[_]) (L2:=[_,_]) [1] [0,2] (by decide) rfl rfl
   refine tf rfl rfl (λa hf=>lK hf rfl call21 rfl (w4 _ bN bG bL aA.body aC (GT.mono hle a8) hm1 (GT.mono hle hG1) (GT.mono hle hG6) _ bM)) ?_
   rintro bP w ⟨_,rfl,hB⟩
   replace hm:=bO _ _ hB;clear hB
   exact tAn rfl (tP rfl (λw=>yA rfl) (tE (gR (gP (by omega) (by omega) rfl (gM rfl (gE (gZe λa hf=>⟨bP,hf.sb rfl,hm.pk [0] rfl rfl⟩)))))))
  repeat clear hm
  rintro cA bQ a w ⟨bR,hf,hm⟩ cC cD
  exact gv hf (gS (gR (gB rfl (gE (gS (go _ 16 rfl (decide_eq_false (by omega)) (gcf rfl (gXt (gHh (gS (gR (gM rfl (gC hm rfl call22 (ss _ bQ bR (hm.ow_rep 0 rfl) (hm.now hG0)) λcE cF w hm=>gX rfl (gX rfl (gA rfl (gA rfl (gE (gRt (gr2 results6 rfl ⟨rfl,hm.below⟩)))))))))))))))))))
theorem yf (w0:World) (op:Int) :
    mE Tryz.prog 139 [nV op] w0 (qb op) λr v w'=>v=(nV r)∧Below w0.heap.size w0 w':=by
  unfold qb
  refine mR func139 rfl λr=>?_
  have hm:=Mem.start w0
  refine gS (gR (gA rfl (gE (gS (gS (gR (gM rfl (gE (gBk (gS (gR (gB rfl (gA rfl (gE (gsd 4 rfl (λaF=>?_) λaF=>?_)))))))))))))))
  ·exact gct rfl (gS (gR (gA rfl (gE (gRt (gr1 results139 rfl ⟨rfl,hm.below⟩))))))
  refine gcf rfl (gS (gS (gR (gB rfl (gA rfl (gE (gJ hm (λaA=>[(3,(nV op)),(6,(.bool (aA)))]) (λaA=>[]) (λaA=>?_) ?_)))))))
  ·refine gsd 6 rfl (λaG=>?_) λaG=>?_
   ·exact gct rfl (gSk (gz hm [] rfl))
   exact gcf rfl (gR (gB rfl (gA rfl (gE (gz hm [] rfl)))))
  repeat clear hm
  intro aA w hm
  refine gs 6 rfl (λaH=>?_) λaH=>?_
  ·exact gct rfl (gS (gR (gA rfl (gE (gRt (gr1 results139 rfl ⟨rfl,hm.below⟩))))))
  refine gcf rfl (gS (gS (gR (gB rfl (gA rfl (gE (gJ hm (λaB=>[(3,(nV op)),(9,(.bool (aB)))]) (λaB=>[]) (λaB=>?_) ?_)))))))
  ·refine gsd 9 rfl (λaI=>?_) λaI=>?_
   ·exact gct rfl (gSk (gz hm [] rfl))
   exact gcf rfl (gR (gB rfl (gA rfl (gE (gz hm [] rfl)))))
  repeat clear hm
  intro aB w hm
  refine gs 9 rfl (λaJ=>?_) λaJ=>?_
  ·exact gct rfl (gS (gR (gA rfl (gE (gRt (gr1 results139 rfl ⟨rfl,hm.below⟩))))))
  refine gcf rfl (gS (gS (gR (gB rfl (gA rfl (gE (gJ hm (λaC=>[(3,(nV op)),(12,(.bool (aC)))]) (λaC=>[]) (λaC=>?_) ?_)))))))
  ·refine gsd 12 rfl (λaK=>?_) λaK=>?_
   ·exact gct rfl (gSk (gz hm [] rfl))
   refine gcf rfl (gS (gR (gB rfl (gA rfl (gE (gJ hm (λaD=>[(3,(nV op)),(12,(.bool (aD)))]) (λaD=>[]) (λaD=>?_) ?_))))))
   ·refine gsd 12 rfl (λaL=>?_) λaL=>?_
    ·exact gct rfl (gSk (gz hm [] rfl))
    exact gcf rfl (gR (gB rfl (gA rfl (gE (gz hm [] rfl)))))
   repeat clear hm
   intro aD w hm
   exact gz hm [] rfl
  repeat clear hm
  intro aC w hm
  refine gs 12 rfl (λaM=>?_) λaM=>?_
  ·exact gct rfl (gS (gR (gA rfl (gE (gRt (gr1 results139 rfl ⟨rfl,hm.below⟩))))))
  refine gcf rfl (gS (gS (gR (gB rfl (gA rfl (gE (gJ hm (λaE=>[(16,(.bool (aE)))]) (λaE=>[]) (λaE=>?_) ?_)))))))
  ·refine gsd 16 rfl (λaN=>?_) λaN=>?_
   ·exact gct rfl (gSk (gz hm [] rfl))
   exact gcf rfl (gR (gB rfl (gA rfl (gE (gz hm [] rfl)))))
  repeat clear hm
  intro aE w hm
  refine gs 16 rfl (λaO=>?_) λaO=>?_
  ·exact gct rfl (gS (gR (gA rfl (gE (gRt (gr1 results139 rfl ⟨rfl,hm.below⟩))))))
  exact gcf rfl (gSk (gS (gR (gA rfl (gE (gRt (gr1 results139 rfl ⟨rfl,hm.below⟩)))))))
theorem yb  : ∀ (n_:Int) (r:Str),pf n_=some r→∀ (w0:World) , Con Tryz.prog 110 [nV n_] w0 (λv w'=>v=(tV r)∧Below w0.heap.size w0 w'):=by
  refine pf.partial_correctness  (motive:=λn_ r=>∀ (w0:World) , Con Tryz.prog 110 [nV n_] w0 (λv w'=>v=(tV r)∧Below w0.heap.size w0 w')) ?_
  intro rec_ ih_ n_ r hq w0
  have spec_l30Dec_rec:∀ (w0:World) (n_:Int) (r:Str) (hq:rec_ n_=some r),Con Tryz.prog 110 [nV n_] w0 (λv w'=>v=(tV r)∧Below w0.heap.size w0 w'):=λw0 n_ r hq=>ih_ n_ r hq w0
  refine pO (ρ:=Str) (R:=λr v w'=>v=(tV r)∧Below w0.heap.size w0 w') func110 rfl hq ?_
  have hm:=Mem.start w0
  refine gS (gR (gA rfl (gE (gS (gS (gR (gM rfl (gB rfl (gE (gsd 5 rfl (λaC=>?_) λaC=>?_))))))))))
  ·exact gct rfl (gS (gR (gA rfl (gE (gRt (gr1 results110 rfl ⟨rfl,hm.below⟩))))))
  refine gcf rfl (gSk (gS (gS (gR (gM rfl (gB rfl (gE (gsd 7 rfl (λaD=>?_) λaD=>?_))))))))
  ·refine gct rfl (gS (gR (gM rfl (gY (yG rfl (bt2 rfl rfl)) (gC hm rfl call110 (spec_l30Dec_rec _ (w64 (0 - n_))) λaE aR w hm=>gb λaF aG=>?_)))))
   have aH:=kq.1 aG
   exact gY (yG rfl (lh (p:=(mkS [45])) (q:=aE) (u:=aF) rfl rfl rfl aH)) (gA rfl (gE (gRt (gr1 results110 rfl ⟨rfl,hm.below⟩))))
  refine gcf rfl (gSk (gS (gR (gA rfl (gE (gS (gJg (λaA a w=>aA.1≤9∧St 31 [(0,(nV aA.1)),(3,(tV aA.2))] w0 (hp w0) [] a w) (λaA=>?_) ?_)))))))
  ·refine gBk (gMf hm (λaB=>[(0,(nV aB.1)),(3,(tV aB.2))]) (λaB=>[]) [] rfl ?_)
   repeat clear hm
   intro aS aI aB w hm aT aJ
   refine gS (gS (gR (gM rfl (gB rfl (gE (gsd 13 rfl (λaK=>?_) λaK=>?_))))))
   ·refine gct rfl (gSk (gBk (gS (gR (gM rfl (gY (yG rfl (zt rfl rfl rfl (by decide))) (gB rfl (gY (yG rfl (as0 underlying3 underlying5 rfl rfl)) (gf rfl (fun a hf => kS (vs := #[(0, (.int .u8 (((qh (w64 (48 + (aB.1.tmod 10))))).toNat : Int)))]) (cs := [(.int .u8 (((qh (w64 (48 + (aB.1.tmod 10))))).toNat : Int))]) bs3 hf hm rfl rfl (by kernel_rfl) rfl rfl) ?_)))))))))
    rintro _ w ⟨aU,rfl,hm⟩
    replace hm:=hm.lit (xs:=([(qh (w64 (48+(aB.1.tmod 10))))]:List UInt8)) 0 rfl rfl rfl rfl
    refine gY (yG rfl (zZ (xs:=([(qh (w64 (48+(aB.1.tmod 10))))]:List UInt8)) underlying22 underlying5 underlying9 rfl rfl (hm.ow_rep 0 rfl))) (gM rfl (gb λaL aM=>?_))
    have aN:=kq.1 aM
    exact gY (yG rfl (lh (p:=(yr ([(qh (w64 (48+(aB.1.tmod 10))))]:List UInt8))) (q:=aB.2) (u:=aL) rfl rfl rfl aN)) (gA rfl (gE (gR (gM rfl (gY (yG rfl (bc5 rfl rfl rfl (by decide))) (gA rfl (gE (gze hm [] rfl))))))))
   exact gcf rfl (gXt (gHh (gLp aJ aI (gZ λa hf=>⟨(by first | omega | (dsimp only;omega)),hf.sb rfl,hm.pk [] rfl rfl⟩))))
  repeat clear hm
  rintro aA a w ⟨aV,hf,hm⟩
  refine gv hf (gS (gR (gM rfl (gB rfl (gY (yG rfl (as0 underlying3 underlying5 rfl rfl)) (gf rfl (λa hf=>kS (vs:=#[(0,(.int .u8 (((qh (w64 (48+aA.1)))).toNat:Int)))]) (cs:=[(.int .u8 (((qh (w64 (48+aA.1)))).toNat:Int))]) bs3 hf hm rfl rfl (by kernel_rfl) rfl rfl) ?_))))))
  rintro _ w ⟨aX,rfl,hm⟩
  replace hm:=hm.lit (xs:=([(qh (w64 (48+aA.1)))]:List UInt8)) 0 rfl rfl rfl rfl
  refine gY (yG rfl (zZ (xs:=([(qh (w64 (48+aA.1)))]:List UInt8)) underlying22 underlying5 underlying9 rfl rfl (hm.ow_rep 0 rfl))) (gM rfl (gb λaO aP=>?_))
  have aQ:=kq.1 aP
  exact gY (yG rfl (lh (p:=(yr ([(qh (w64 (48+aA.1)))]:List UInt8))) (q:=aA.2) (u:=aO) rfl rfl rfl aQ)) (gA rfl (gE (gRt (gr1 results110 rfl ⟨rfl,hm.below⟩))))
theorem aa3 (w0:World) (n_:Int) (r:Str) (hq:pf n_=some r):Con Tryz.prog 110 [nV n_] w0 (λv w'=>v=(tV r)∧Below w0.heap.size w0 w'):=yb n_ r hq w0
theorem vh (w0:World) (op:Int) :
    mE Tryz.prog 140 [nV op] w0 (mT op) λr v w'=>v=(tV r)∧Below w0.heap.size w0 w':=by
  unfold mT
  refine mR func140 rfl λr=>?_
  have hm:=Mem.start w0
  refine gS (gR (gA rfl (gE (gS (gS (gR (gM rfl (gC hm rfl call56 (pJ _ op 3 12) λaE aF w hm=>gN rfl (gE (gsn 6 rfl (λaA=>?_) λaA=>?_))))))))))
  ·exact gct rfl (gS (gR (gA rfl (gE (gRt (gr1 results140 rfl ⟨rfl,hm.below⟩))))))
  refine gcf rfl (gSk (gS (gR (gM rfl (gB rfl (gA rfl (gE (gS (gR (gM rfl (gM rfl (gB rfl (gb λaG aB=>?_)))))))))))))
  obtain ⟨aC,aD⟩:=rC.1 aB
  refine gY (yG rfl (zT (s:=(mkS [43,45,42,47,37,60,61,38,33,64])) underlying9 rfl rfl rfl rfl aC _)) ?_
  rw [aD]
  exact gA rfl (gE (gRt (gr1 results140 rfl ⟨rfl,hm.below⟩)))
theorem yc  : ∀ (e:kK) (need:Int) (r:Str),nK e need=some r→∀ (w0:World) (v1:Value) (h1:GT.rep (hp w0) [v1] e.kids),Con Tryz.prog 125 [(.agg #[nV e.op,nV e.n_,(tV e.name),v1]),nV need] w0 (λv w'=>v=(tV r)∧Below w0.heap.size w0 w'):=by
  refine nK.partial_correctness  (motive:=λe need r=>∀ (w0:World) (v1:Value) (h1:GT.rep (hp w0) [v1] e.kids),Con Tryz.prog 125 [(.agg #[nV e.op,nV e.n_,(tV e.name),v1]),nV need] w0 (λv w'=>v=(tV r)∧Below w0.heap.size w0 w')) ?_
  intro rec_ ih_ e need r hq w0 v1 h1
  have spec_l2Text_rec:∀ (w0:World) (e:kK) (v1:Value) (h1:GT.rep (hp w0) [v1] e.kids) (need:Int) (r:Str) (hq:rec_ e need=some r),Con Tryz.prog 125 [(.agg #[nV e.op,nV e.n_,(tV e.name),v1]),nV need] w0 (λv w'=>v=(tV r)∧Below w0.heap.size w0 w'):=λw0 e v1 h1 need r hq=>ih_ e need r hq w0 v1 h1
  refine pO (ρ:=Str) (R:=λr v w'=>v=(tV r)∧Below w0.heap.size w0 w') func125 rfl hq ?_
  have hm:=Mem.start w0
  refine gS (gR (gBx hm rfl λaB w hm=>gA rfl (gE (gS (gR (gF mP rfl (gL hm 0 isAgg3 rfl (gC hm rfl call139 (yf _ e.op) λaA bt w hm=>gA rfl (gE (gS (gR (gA rfl (gE (gS (gJ hm (λaC=>[(1,(nV need)),(5,(nV aA)),(6,(tV aC))]) (λaC=>[]) (λaC=>?_) ?_)))))))))))))))
  ·refine gBk (gS (gR (gF mP rfl (gL hm 0 isAgg3 rfl (gB rfl (gA rfl (gE (gJ hm (λaE=>[(1,(nV need)),(5,(nV aA)),(6,(tV aE))]) (λaE=>[]) (λaE=>?_) ?_))))))))
   ·refine gsd 31 rfl (λaU=>?_) λaU=>?_
    ·exact gct rfl (gR (gF qe rfl (gL hm 0 isAgg3 rfl (gC hm rfl call110 (aa3 _ e.n_) λbu bv w hm=>gA rfl (gE (gz hm [] rfl))))))
    refine gcf rfl (gS (gR (gF mP rfl (gL hm 0 isAgg3 rfl (gB rfl (gA rfl (gE (gJ hm (λaF=>[(1,(nV need)),(5,(nV aA)),(6,(tV aF))]) (λaF=>[]) (λaF=>?_) ?_))))))))
    ·refine gsd 38 rfl (λaV=>?_) λaV=>?_
     ·exact gct rfl (gR (gF q9 rfl (gL hm 0 isAgg9 rfl (gA rfl (gE (gz hm [] rfl))))))
     refine gcf rfl (gS (gR (gF mP rfl (gL hm 0 isAgg3 rfl (gB rfl (gA rfl (gE (gJ hm (λaG=>[(1,(nV need)),(5,(nV aA)),(6,(tV aG))]) (λaG=>[]) (λaG=>?_) ?_))))))))
     ·refine gsd 44 rfl (λaX=>?_) λaX=>?_
      ·refine gct rfl (gS (gR (gF q9 rfl (gL hm 0 isAgg9 rfl (gb λaY aZ=>?_)))))
       have a8:=kq.1 aZ
       refine gY (yG rfl (lh (p:=e.name) (q:=(mkS [32,40])) (u:=aY) rfl rfl rfl a8)) (gA rfl (gE (gS (gS (gR (gA rfl (gE (gBk (gNf hm (λaH aI=>[(1,(nV need)),(2,(pV aB)),(5,(nV aA)),(6,(tV aI)),(7,(nV aH))]) (λaH aI=>[blk aB [nV e.op,nV e.n_,(tV e.name),v1] 80]) [0] rfl ?_ ?_)))))))))
       ·repeat clear hm
        intro _ _ aH aI w hm bw bz cA _
        refine gS (gS (gR (gM rfl (gF mJ rfl (gL hm 0 isAgg59 rfl ?_)))))
        obtain ⟨aa,ab,rfl,cC⟩:=kT h1
        refine gY (yV nL rfl) (gB rfl (gE (go _ 55 rfl (decide_eq_true (by omega)) (gct rfl (gSk (gS (gBk (gS (gS (gR (gM rfl (gB rfl (gE (gJ hm (λaD=>[(1,(nV need)),(2,(pV aB)),(5,(nV aA)),(6,(tV aD)),(7,(nV aH))]) (λaD=>[blk aB [nV e.op,nV e.n_,(tV e.name),.slice aa e.kids.length ab] 80]) (λaD=>?_) ?_))))))))))))))
        ·refine gsd 59 rfl (λac=>?_) λac=>?_
         ·refine gct rfl (gR (gM rfl (gb λae af=>?_)))
          have ag:=kq.1 af
          exact gY (yG rfl (lh (p:=aI) (q:=(mkS [32,44])) (u:=ae) rfl rfl rfl ag)) (gA rfl (gE (gz hm [0] rfl)))
         exact gcf rfl (gSk (gz hm [0] rfl))
        repeat clear hm
        intro aD w hm
        refine gR (gM rfl (gb λaN ah=>?_))
        have ai:=kq.1 ah
        refine gY (yG rfl (lh (p:=aD) (q:=(mkS [32])) (u:=aN) rfl rfl rfl ai)) (gF mJ rfl (gL hm 0 isAgg59 rfl (gM rfl (gg λaj ak aK=>?_))))
        obtain ⟨cD,cE,cF,he⟩:=lU h1 aK
        obtain ⟨rfl,_,rfl⟩:=sl3 he
        obtain ⟨al,am,an⟩:=n0 h1 aK
        refine gI nL ak (lO aK) rfl (gY (yn (am.mono hm.lez) isAgg80 sizeOf80 rfl) (gC hm rfl call125 (spec_l2Text_rec _ aj al (hm.now an) 1) λao cG w hm=>gb λaq ar=>?_))
        have au:=kq.1 ar
        exact gY (yG rfl (lh (p:=aN) (q:=ao) (u:=aq) rfl rfl rfl au)) (gA rfl (gE (gR (gM rfl (gP (by omega) (by omega) rfl (gA rfl (gE (gze hm [0] rfl))))))))
       repeat clear hm
       intro cH av w hm cI cJ
       refine gS (gS (gR (gM rfl (gF mJ rfl (gL hm 0 isAgg59 rfl ?_)))))
       obtain ⟨cK,cL,rfl,cN⟩:=kT h1
       refine gY (yV nL rfl) (gB rfl (gE (go _ 55 rfl (decide_eq_false (by omega)) (gcf rfl (gXt (gHh (gR (gM rfl (gb λaw ax=>?_)))))))))
       have ay:=kq.1 ax
       exact gY (yG rfl (lh (p:=av) (q:=(mkS [32,41])) (u:=aw) rfl rfl rfl ay)) (gA rfl (gE (gz hm [] rfl)))
      refine gcf rfl (gS (gR (gM rfl (gB rfl (gA rfl (gE (gJ hm (λaJ=>[(1,(nV need)),(5,(nV aA)),(6,(tV aJ))]) (λaJ=>[]) (λaJ=>?_) ?_)))))))
      ·refine gsd 73 rfl (λaz=>?_) λaz=>?_
       ·refine gct rfl (gW (.p 0 (.p 4 (.q 1 (.q 5 (.p 6 (.q 7 (.e 2 (.p 3 (.e 8 (.p 9 (.p 10 .fin)) .nil)) .nil))))))) [1, 2, 5, 7] [0, 3, 4, 6, 9, 10] hm [0] [blk aB [nV e.op, nV e.n_, (tV e.name), v1] 80] rfl mxo (by kernel_rfl) (fun _ _ _ h => h.2) fun w hm hS => tP rfl (fun w => yF mP rfl) (tP rfl (fun w => yF mJ rfl) (tQ rfl hS (fun w hm => yL hm 0 isAgg3 rfl) (tQ rfl hS (fun w hm => yL hm 0 isAgg59 rfl) (gg fun bA bB aL => ?_)))))
        obtain ⟨cO,cP,cQ,he⟩:=lU h1 aL
        subst he
        obtain ⟨bC,bD,bE⟩:=n0 h1 aL
        refine tP rfl (λw=>yI nL bB (lO aL) rfl) (tQ rfl hS (λw hm=>yn (bD.mono hm.lez) isAgg80 sizeOf80 rfl) (tO (gb λbF bG=>tf rfl rfl (λa hf=>lK hf rfl call140 rfl (vh _ e.op _ bG)) ?_)))
        rintro cR w ⟨rfl,hB⟩
        replace hm:=hm.below' hB;clear hB
        refine tAk hm [0] rfl λhS=>gb λaO bH=>?_
        have bJ:=kq.1 bH
        refine tP rfl (λw=>yG rfl (lh (p:=bF) (q:=(mkS [32])) (u:=aO) rfl rfl rfl bJ)) (tO (gb λbK bL=>tf rfl rfl (λa hf=>lK hf rfl call125 rfl (spec_l2Text_rec _ bA bC (hm.now bE) 5 _ bL)) ?_))
        rintro cS w ⟨rfl,hB⟩
        replace hm:=hm.below' hB;clear hB
        refine tAn rfl (gb λbM bN=>?_)
        have bO:=kq.1 bN
        exact tP rfl (λw=>yG rfl (lh (p:=aO) (q:=bK) (u:=bM) rfl rfl rfl bO)) (tP rfl (λw=>yA rfl) (tE (gz hm [] rfl)))
       refine gcf rfl (gW (.p 0 (.p 4 (.p 7 (.p 12 (.p 16 (.p 17 (.q 1 (.p 2 (.q 3 (.q 8 (.q 13 (.p 14 (.q 15 (.e 5 (.p 6 (.e 9 (.p 10 (.p 11 (.e 18 (.p 19 (.p 20 .fin)) .nil))) .nil)) .nil)))))))))))))) [1,3,5,8,9,13,15] [0,2,4,6,7,10,11,12,14,16,17,19,20] hm [0] [blk aB [nV e.op,nV e.n_,(tV e.name),v1] 80] rfl mxo (by kernel_rfl) (λ_ _ _ h=>h.2) λw hm hS=>tP rfl (λw=>yF mJ rfl) (tP rfl (λw=>yM rfl) (tP rfl (λw=>yF mP rfl) (tP rfl (λw=>yF mJ rfl) (tP rfl (λw=>yM rfl) (tP rfl (λw=>yB rfl) (tQ rfl hS (λw hm=>yL hm 0 isAgg59 rfl) (gg λbP bQ aM=>?_))))))))
       obtain ⟨cT,cU,cV,he⟩:=lU h1 aM
       subst he
       obtain ⟨bR,bS,bT⟩:=n0 h1 aM
       refine tP rfl (λw=>yI nL bQ (lO aM) rfl) (tQ rfl hS (λw hm=>yn (bS.mono hm.lez) isAgg80 sizeOf80 rfl) (tQ rfl hS (λw hm=>yL hm 0 isAgg3 rfl) (tQ rfl hS (λw hm=>yL hm 0 isAgg59 rfl) (gg λbU bV aP=>?_))))
       obtain ⟨bW,bX,bY⟩:=n0 h1 aP
       refine tP rfl (λw=>yI nL bV (lO aP) rfl) (tQ rfl hS (λw hm=>yn (bX.mono hm.lez) isAgg80 sizeOf80 rfl) (tO (gb λbZ b8=>tf rfl rfl (λa hf=>lK hf rfl call125 rfl (spec_l2Text_rec _ bP bR (hm.now bT) aA _ b8)) ?_)))
       rintro cW w ⟨rfl,hB⟩
       replace hm:=hm.below' hB;clear hB
       refine tAk hm [0] rfl λhS=>gb λaQ b9=>?_
       have ba:=kq.1 b9
       refine tP rfl (λw=>yG rfl (lh (p:=bZ) (q:=(mkS [32])) (u:=aQ) rfl rfl rfl ba)) (tO (gb λbb bc=>tf rfl rfl (λa hf=>lK hf rfl call140 rfl (vh _ e.op _ bc)) ?_))
       rintro cX w ⟨rfl,hB⟩
       replace hm:=hm.below' hB;clear hB
       refine tAk hm [0] rfl λhS=>gb λaR bd=>?_
       have be:=kq.1 bd
       refine tP rfl (λw=>yG rfl (lh (p:=aQ) (q:=bb) (u:=aR) rfl rfl rfl be)) (gb λaS bf=>?_)
       have bg:=kq.1 bf
       refine tP rfl (λw=>yG rfl (lh (p:=aR) (q:=(mkS [32])) (u:=aS) rfl rfl rfl bg)) (tO (gb λbh bi=>tf rfl rfl (λa hf=>lK hf rfl call125 rfl (spec_l2Text_rec _ bU bW (hm.now bY) (w64 (aA+1)) _ bi)) ?_))
       rintro cY w ⟨rfl,hB⟩
       replace hm:=hm.below' hB;clear hB
       refine tAn rfl (gb λbj bk=>?_)
       have bl:=kq.1 bk
       exact tP rfl (λw=>yG rfl (lh (p:=aS) (q:=bh) (u:=bj) rfl rfl rfl bl)) (tP rfl (λw=>yA rfl) (tE (gz hm [] rfl)))
      repeat clear hm
      intro aJ w hm
      exact gz hm [] rfl
     repeat clear hm
     intro aG w hm
     exact gz hm [] rfl
    repeat clear hm
    intro aF w hm
    exact gz hm [] rfl
   repeat clear hm
   intro aE w hm
   exact gz hm [] rfl
  repeat clear hm
  intro aC w hm
  refine gS (gS (gR (gM rfl (gM rfl (gB rfl (gE (gsd 88 rfl (λbm=>?_) λbm=>?_)))))))
  ·refine gct rfl (gS (gR (gM rfl (gb λaT bo=>?_))))
   have bp:=kq.1 bo
   refine gY (yG rfl (lh (p:=(mkS [40,32])) (q:=aC) (u:=aT) rfl rfl rfl bp)) (gb λbq br=>?_)
   have bs:=kq.1 br
   exact gY (yG rfl (lh (p:=aT) (q:=(mkS [32,41])) (u:=bq) rfl rfl rfl bs)) (gA rfl (gE (gRt (gr1 results125 rfl ⟨rfl,hm.below⟩))))
  exact gcf rfl (gSk (gS (gR (gM rfl (gA rfl (gE (gRt (gr1 results125 rfl ⟨rfl,hm.below⟩))))))))
theorem vk (w0:World) (e:kK) (v1:Value) (h1:GT.rep (hp w0) [v1] e.kids) (need:Int) (r:Str) (hq:nK e need=some r):Con Tryz.prog 125 [(.agg #[nV e.op,nV e.n_,(tV e.name),v1]),nV need] w0 (λv w'=>v=(tV r)∧Below w0.heap.size w0 w'):=yc e need r hq w0 v1 h1
theorem xt  : (∀ (list:List kN) (r:Str),nB list=some r→∀ (w0:World) (v1:Value) (h1:GT.rep (hp w0) [v1] list),Con Tryz.prog 60 [v1] w0 (λv w'=>v=(tV r)∧Below w0.heap.size w0 w')) ∧
    (∀ (s_:kN) (r:Str),qW s_=some r→∀ (w0:World) (v1:Value) (h1:GT.rep (hp w0) [v1] s_.args) (v2:Value) (h2:GT.rep (hp w0) [v2] s_.body) (v3:Value) (h3:GT.rep (hp w0) [v3] s_.else_),Con Tryz.prog 99 [(.agg #[nV s_.op,(tV s_.name),v1,v2,v3])] w0 (λv w'=>v=(tV r)∧Below w0.heap.size w0 w')):=by
  refine nB.mutual_partial_correctness  (motive_1:=λlist r=>∀ (w0:World) (v1:Value) (h1:GT.rep (hp w0) [v1] list),Con Tryz.prog 60 [v1] w0 (λv w'=>v=(tV r)∧Below w0.heap.size w0 w')) (motive_2:=λs_ r=>∀ (w0:World) (v1:Value) (h1:GT.rep (hp w0) [v1] s_.args) (v2:Value) (h2:GT.rep (hp w0) [v2] s_.body) (v3:Value) (h3:GT.rep (hp w0) [v3] s_.else_),Con Tryz.prog 99 [(.agg #[nV s_.op,(tV s_.name),v1,v2,v3])] w0 (λv w'=>v=(tV r)∧Below w0.heap.size w0 w')) ?_ ?_
  · intro rec_ ih_ list r hq w0 v1 h1
    have spec_l3Line_rec:∀ (w0:World) (s_:kN) (v1:Value) (h1:GT.rep (hp w0) [v1] s_.args) (v2:Value) (h2:GT.rep (hp w0) [v2] s_.body) (v3:Value) (h3:GT.rep (hp w0) [v3] s_.else_) (r:Str) (hq:rec_ s_=some r),Con Tryz.prog 99 [(.agg #[nV s_.op,(tV s_.name),v1,v2,v3])] w0 (λv w'=>v=(tV r)∧Below w0.heap.size w0 w'):=λw0 s_ v1 h1 v2 h2 v3 h3 r hq=>ih_ s_ r hq w0 v1 h1 v2 h2 v3 h3
    refine pO (ρ:=Str) (R:=λr v w'=>v=(tV r)∧Below w0.heap.size w0 w') func60 rfl hq ?_
    have hm:=Mem.start w0
    refine gS (gR (gA rfl (gE (gS (gR (gA rfl (gE (gS (gS (gR (gA rfl (gE (gBk (gNf hm (λaF aD=>[(0,v1),(3,(tV aD)),(4,(nV aF))]) (λaF aD=>[]) [] rfl ?_ ?_))))))))))))))
    ·repeat clear hm
     intro _ _ aF aD w hm cW cX cY _
     refine gS (gS (gR (gM rfl (gM rfl ?_))))
     obtain ⟨cZ,c8,rfl,c9⟩:=kT h1
     refine gY (yV pI rfl) (gB rfl (gE (go _ 8 rfl (decide_eq_true (by omega)) (gct rfl (gSk (gS (gBk (gR (gM rfl (gb λaB aG=>?_))))))))))
     have aH:=kq.1 aG
     refine gY (yG rfl (lh (p:=aD) (q:=(mkS [32])) (u:=aB) rfl rfl rfl aH)) (gM rfl (gM rfl (gg λaI aJ aC=>?_)))
     obtain ⟨ca,cb,cc,he⟩:=lU h1 aC
     obtain ⟨rfl,_,rfl⟩:=sl3 he
     obtain ⟨ai,aj,ak,al,aK,am,an⟩:=rv h1 aC
     refine gI pI aJ (lO aC) rfl (gY (yn (al.mono hm.lez) isAgg61 sizeOf61 rfl) (gC hm rfl call99 (spec_l3Line_rec _ aI ai (hm.now aK) aj (hm.now am) ak (hm.now an)) λaL cd w hm=>gb λao aq=>?_))
     have ar:=kq.1 aq
     exact gY (yG rfl (lh (p:=aB) (q:=aL) (u:=ao) rfl rfl rfl ar)) (gA rfl (gE (gR (gM rfl (gP (by omega) (by omega) rfl (gA rfl (gE (gze hm [] rfl))))))))
    repeat clear hm
    intro ce au w hm cf cg
    refine gS (gS (gR (gM rfl (gM rfl ?_))))
    obtain ⟨aP,av,rfl,aw⟩:=kT h1
    refine gY (yV pI rfl) (gB rfl (gE (go _ 8 rfl (decide_eq_false (by omega)) (gcf rfl (gXt (gHh (gS (gR (gM rfl (gb λaM ax=>?_))))))))))
    have aN:=kq.1 ax
    exact gY (yG rfl (lh (p:=au) (q:=(mkS [32,125])) (u:=aM) rfl rfl rfl aN)) (gA rfl (gE (gRt (gr1 results60 rfl ⟨rfl,hm.below⟩))))
  · intro rec_ ih_ s_ r hq w0 v1 h1 v2 h2 v3 h3
    have spec_l3Block_rec:∀ (w0:World) (list:List kN) (v1:Value) (h1:GT.rep (hp w0) [v1] list) (r:Str) (hq:rec_ list=some r),Con Tryz.prog 60 [v1] w0 (λv w'=>v=(tV r)∧Below w0.heap.size w0 w'):=λw0 list v1 h1 r hq=>ih_ list r hq w0 v1 h1
    refine pO (ρ:=Str) (R:=λr v w'=>v=(tV r)∧Below w0.heap.size w0 w') func99 rfl hq ?_
    have hm:=Mem.start w0
    refine gS (gR (gBx hm rfl λcj w hm=>gA rfl (gE (gS (gR (gF ov rfl (gL hm 0 isAgg59 rfl (gg λaM aN aO=>?_))))))))
    obtain ⟨ck,cl,av,he⟩:=lU h1 aO
    subst he
    obtain ⟨ay,az,bA⟩:=n0 h1 aO
    refine gI nL aN (lO aO) rfl (gY (yn (az.mono hm.lez) isAgg80 sizeOf80 rfl) (gC hm rfl call125 (vk _ aM ay (hm.now bA) 1) λaA cm w hm=>gA rfl (gE (gS (gS (gR (gF oT rfl (gL hm 0 isAgg3 rfl (gE (gBk (gS (gR (gB rfl (gA rfl (gE (gsd 12 rfl (λbB=>?_) λbB=>?_))))))))))))))))
    ·refine gct rfl (gS (gR (gF qd rfl (gL hm 0 isAgg9 rfl (gb λaQ bC=>?_)))))
     have bD:=kq.1 bC
     refine gY (yG rfl (lh (p:=(mkS [108,101,116,32])) (q:=s_.name) (u:=aQ) rfl rfl rfl bD)) (gb λaR bE=>?_)
     have bF:=kq.1 bE
     refine gY (yG rfl (lh (p:=aQ) (q:=(mkS [32,61,32])) (u:=aR) rfl rfl rfl bF)) (gM rfl (gb λaS bG=>?_))
     have bH:=kq.1 bG
     refine gY (yG rfl (lh (p:=aR) (q:=aA) (u:=aS) rfl rfl rfl bH)) (gb λbJ bK=>?_)
     have bL:=kq.1 bK
     exact gY (yG rfl (lh (p:=aS) (q:=(mkS [32,59])) (u:=bJ) rfl rfl rfl bL)) (gA rfl (gE (gRt (gr1 results99 rfl ⟨rfl,hm.below⟩))))
    refine gcf rfl (gS (gR (gB rfl (gA rfl (gE (gsd 21 rfl (λbM=>?_) λbM=>?_))))))
    ·refine gct rfl (gS (gR (gF qd rfl (gL hm 0 isAgg9 rfl (gb λaT bN=>?_)))))
     have bO:=kq.1 bN
     refine gY (yG rfl (lh (p:=s_.name) (q:=(mkS [32,61,32])) (u:=aT) rfl rfl rfl bO)) (gM rfl (gb λaU bP=>?_))
     have bQ:=kq.1 bP
     refine gY (yG rfl (lh (p:=aT) (q:=aA) (u:=aU) rfl rfl rfl bQ)) (gb λbR bS=>?_)
     have bT:=kq.1 bS
     exact gY (yG rfl (lh (p:=aU) (q:=(mkS [32,59])) (u:=bR) rfl rfl rfl bT)) (gA rfl (gE (gRt (gr1 results99 rfl ⟨rfl,hm.below⟩))))
    refine gcf rfl (gS (gR (gB rfl (gA rfl (gE (gsd 29 rfl (λbU=>?_) λbU=>?_))))))
    ·refine gct rfl (gS (gR (gM rfl (gb λaV bV=>?_))))
     have bW:=kq.1 bV
     refine gY (yG rfl (lh (p:=(mkS [115,97,121,32])) (q:=aA) (u:=aV) rfl rfl rfl bW)) (gb λbX bY=>?_)
     have bZ:=kq.1 bY
     exact gY (yG rfl (lh (p:=aV) (q:=(mkS [32,59])) (u:=bX) rfl rfl rfl bZ)) (gA rfl (gE (gRt (gr1 results99 rfl ⟨rfl,hm.below⟩))))
    refine gcf rfl (gS (gR (gB rfl (gA rfl (gE (gsd 34 rfl (λb8=>?_) λb8=>?_))))))
    ·refine gct rfl (gS (gR (gM rfl (gb λaX b9=>?_))))
     have ba:=kq.1 b9
     refine gY (yG rfl (lh (p:=(mkS [112,117,116,32])) (q:=aA) (u:=aX) rfl rfl rfl ba)) (gb λaY bb=>?_)
     have bc:=kq.1 bb
     refine gY (yG rfl (lh (p:=aX) (q:=(mkS [32,44,32])) (u:=aY) rfl rfl rfl bc)) (gF ov rfl (gL hm 0 isAgg59 rfl (gg λbd be aZ=>?_)))
     obtain ⟨bf,bg,bh⟩:=n0 h1 aZ
     refine gI nL be (lO aZ) rfl (gY (yn (bg.mono hm.lez) isAgg80 sizeOf80 rfl) (gC hm rfl call125 (vk _ bd bf (hm.now bh) 1) λbi cn w hm=>gb λa8 bj=>?_))
     have bk:=kq.1 bj
     refine gY (yG rfl (lh (p:=aY) (q:=bi) (u:=a8) rfl rfl rfl bk)) (gb λbl bm=>?_)
     have bo:=kq.1 bm
     exact gY (yG rfl (lh (p:=a8) (q:=(mkS [32,59])) (u:=bl) rfl rfl rfl bo)) (gA rfl (gE (gRt (gr1 results99 rfl ⟨rfl,hm.below⟩))))
    refine gcf rfl (gS (gR (gB rfl (gA rfl (gE (gsd 46 rfl (λbp=>?_) λbp=>?_))))))
    ·refine gct rfl (gS (gR (gM rfl (gb λaa bq=>?_))))
     have br:=kq.1 bq
     refine gY (yG rfl (lh (p:=(mkS [108,111,111,112,32])) (q:=aA) (u:=aa) rfl rfl rfl br)) (gb λab bs=>?_)
     have bt:=kq.1 bs
     refine gY (yG rfl (lh (p:=aa) (q:=(mkS [32])) (u:=ab) rfl rfl rfl bt)) (gF qf rfl (gL hm 0 isAgg43 rfl (gC hm rfl call60 (spec_l3Block_rec _ s_.body v2 (hm.now h2)) λbu co w hm=>gb λbv bw=>?_)))
     have bz:=kq.1 bw
     exact gY (yG rfl (lh (p:=ab) (q:=bu) (u:=bv) rfl rfl rfl bz)) (gA rfl (gE (gRt (gr1 results99 rfl ⟨rfl,hm.below⟩))))
    refine gcf rfl (gS (gR (gB rfl (gA rfl (gE (gsd 55 rfl (λcA=>?_) λcA=>?_))))))
    ·refine gct rfl (gS (gR (gM rfl (gb λac cC=>?_))))
     have cD:=kq.1 cC
     refine gY (yG rfl (lh (p:=(mkS [98,97,99,107,32])) (q:=aA) (u:=ac) rfl rfl rfl cD)) (gb λcE cF=>?_)
     have cG:=kq.1 cF
     exact gY (yG rfl (lh (p:=ac) (q:=(mkS [32,59])) (u:=cE) rfl rfl rfl cG)) (gA rfl (gE (gRt (gr1 results99 rfl ⟨rfl,hm.below⟩))))
    refine gcf rfl (gS (gR (gB rfl (gA rfl (gE (gsd 60 rfl (λcH=>?_) λcH=>?_))))))
    ·refine gct rfl (gS (gR (gM rfl (gb λae cI=>?_))))
     have cJ:=kq.1 cI
     refine gY (yG rfl (lh (p:=(mkS [100,111,32])) (q:=aA) (u:=ae) rfl rfl rfl cJ)) (gb λcK cL=>?_)
     have cN:=kq.1 cL
     exact gY (yG rfl (lh (p:=ae) (q:=(mkS [32,59])) (u:=cK) rfl rfl rfl cN)) (gA rfl (gE (gRt (gr1 results99 rfl ⟨rfl,hm.below⟩))))
    refine gcf rfl (gSk (gS (gR (gM rfl (gb λaf cO=>?_)))))
    have cP:=kq.1 cO
    refine gY (yG rfl (lh (p:=(mkS [105,102,32])) (q:=aA) (u:=af) rfl rfl rfl cP)) (gb λag cQ=>?_)
    have cR:=kq.1 cQ
    refine gY (yG rfl (lh (p:=af) (q:=(mkS [32])) (u:=ag) rfl rfl rfl cR)) (gF qf rfl (gL hm 0 isAgg43 rfl (gC hm rfl call60 (spec_l3Block_rec _ s_.body v2 (hm.now h2)) λcS cq w hm=>gb λah cT=>?_)))
    have cU:=kq.1 cT
    refine gY (yG rfl (lh (p:=ag) (q:=cS) (u:=ah) rfl rfl rfl cU)) (gA rfl (gE (gS (gS (gR (gF qJ rfl (gL hm 0 isAgg43 rfl ?_)))))))
    obtain ⟨aP,cV,rfl,aw⟩:=kT h3
    refine gY (yV pI rfl) (gB rfl (gE (gJ hm (λaE=>[(4,(tV aE))]) (λaE=>[]) (λaE=>?_) ?_)))
    ·refine gsd 75 rfl (λaH=>?_) λaH=>?_
     ·refine gct rfl (gR (gM rfl (gb λaB aG=>?_)))
      have aJ:=kq.1 aG
      refine gY (yG rfl (lh (p:=ah) (q:=(mkS [32,101,108,115,101,32])) (u:=aB) rfl rfl rfl aJ)) (gF qJ rfl (gL hm 0 isAgg43 rfl (gC hm rfl call60 (spec_l3Block_rec _ s_.else_ (.slice aP s_.else_.length cV) (hm.now h3)) λaL cr w hm=>gb λaI aC=>?_)))
      have aK:=kq.1 aC
      exact gY (yG rfl (lh (p:=aB) (q:=aL) (u:=aI) rfl rfl rfl aK)) (gA rfl (gE (gz hm [] rfl)))
     exact gcf rfl (gSk (gz hm [] rfl))
    repeat clear hm
    intro aE w hm
    exact gS (gR (gM rfl (gA rfl (gE (gRt (gr1 results99 rfl ⟨rfl,hm.below⟩))))))
theorem ye (w0:World) (list:List kN) (v1:Value) (h1:GT.rep (hp w0) [v1] list) (r:Str) (hq:nB list=some r):Con Tryz.prog 60 [v1] w0 (λv w'=>v=(tV r)∧Below w0.heap.size w0 w'):=(xt ).1 list r hq w0 v1 h1
theorem zQ (w0:World) (p_:kp) (v1:Value) (h1:GT.rep (hp w0) [v1] p_.fns) :
    mE Tryz.prog 25 [(.agg #[v1])] w0 (rL p_) λr v w'=>v=(tV r)∧Below w0.heap.size w0 w':=by
  unfold rL
  refine mR func25 rfl λr=>?_
  have hm:=Mem.start w0
  refine gS (gR (gBx hm rfl λaA w hm=>gA rfl (gE (gS (gR (gA rfl (gE (gS (gS (gR (gA rfl (gE (gBk (gNf hm (λaB aH=>[(1,(pV aA)),(3,(tV aH)),(4,(nV aB))]) (λaB aH=>[blk aA [v1] 25]) [0] rfl ?_ ?_))))))))))))))
  ·repeat clear hm
   intro _ _ aB aH w hm bH bJ bK _
   refine gS (gS (gR (gM rfl (gF nu rfl (gL hm 0 isAgg23 rfl ?_)))))
   obtain ⟨bL,aL,rfl,bM⟩:=kT h1
   refine gY (yV nz rfl) (gB rfl (gE (go _ 11 rfl (decide_eq_true (by omega)) (gct rfl (gSk (gS (gBk (gS (gR (gF nu rfl (gL hm 0 isAgg23 rfl (gM rfl (gg λaC aY aM=>?_)))))))))))))
   obtain ⟨aN,aO,bN,he⟩:=lU h1 aM
   obtain ⟨rfl,_,rfl⟩:=sl3 he
   obtain ⟨aQ,aI,aZ,aE,aR⟩:=sH h1 aM
   refine gI nz aY (lO aM) rfl (gY (yn (aZ.mono hm.lez) isAgg45 sizeOf45 rfl) (gAl hm zeroValue45 rfl λaD w hm=>gSN hm 0 sizeOf45 (kL rfl (kL (ki aE) (kL (ki aR) ke))) rfl λw hm=>gE (gS (gS (gR (gM rfl (gB rfl (gE (gJ hm (λaF=>[(1,(pV aA)),(3,(tV aF)),(4,(nV aB)),(5,(pV aD))]) (λaF=>[blk aA [sV aN aO p_.fns.length aL] 25,blk aD [(tV aC.name),aQ,aI] 45]) (λaF=>?_) ?_)))))))))
   ·refine gsd 20 rfl (λa8=>?_) λa8=>?_
    ·refine gct rfl (gR (gM rfl (gb λaa ab=>?_)))
     have ac:=kq.1 ab
     exact gY (yG rfl (lh (p:=aH) (q:=(mkS [32])) (u:=aa) rfl rfl rfl ac)) (gA rfl (gE (gz hm [1,0] rfl)))
    exact gcf rfl (gSk (gz hm [1,0] rfl))
   repeat clear hm
   intro aF w hm
   refine gS (gR (gM rfl (gb λaS ae=>?_)))
   have af:=kq.1 ae
   refine gY (yG rfl (lh (p:=aF) (q:=(mkS [102,110,32])) (u:=aS) rfl rfl rfl af)) (gF sn rfl (gL hm 1 isAgg9 rfl (gb λaT ag=>?_)))
   have ah:=kq.1 ag
   refine gY (yG rfl (lh (p:=aS) (q:=aC.name) (u:=aT) rfl rfl rfl ah)) (gb λai aj=>?_)
   have ak:=kq.1 aj
   refine gY (yG rfl (lh (p:=aT) (q:=(mkS [32,40])) (u:=ai) rfl rfl rfl ak)) (gA rfl (gE (gS (gS (gR (gA rfl (gE (gBk (gNf hm (λaJ aK=>[(1,(pV aA)),(3,(tV aK)),(4,(nV aB)),(5,(pV aD)),(6,(nV aJ))]) (λaJ aK=>[blk aA [sV aN aO p_.fns.length aL] 25,blk aD [(tV aC.name),aQ,aI] 45]) [0,1] rfl ?_ ?_)))))))))
   ·repeat clear hm
    intro _ _ aJ aK w hm bO bP bQ _
    refine gS (gS (gR (gM rfl (gF o6 rfl (gL hm 1 isAgg42 rfl ?_)))))
    obtain ⟨al,am,rfl,bR⟩:=kT aE
    refine gY (yV oG rfl) (gB rfl (gE (go _ 33 rfl (decide_eq_true (by omega)) (gct rfl (gSk (gS (gBk (gS (gS (gR (gM rfl (gB rfl (gE (gJ hm (λaG=>[(1,(pV aA)),(3,(tV aG)),(4,(nV aB)),(5,(pV aD)),(6,(nV aJ))]) (λaG=>[blk aA [sV aN aO p_.fns.length aL] 25,blk aD [(tV aC.name),.slice al aC.params.length am,aI] 45]) (λaG=>?_) ?_))))))))))))))
    ·refine gsd 37 rfl (λan=>?_) λan=>?_
     ·refine gct rfl (gR (gM rfl (gb λao aq=>?_)))
      have ar:=kq.1 aq
      exact gY (yG rfl (lh (p:=aK) (q:=(mkS [32,44])) (u:=ao) rfl rfl rfl ar)) (gA rfl (gE (gz hm [0,1] rfl)))
     exact gcf rfl (gSk (gz hm [0,1] rfl))
    repeat clear hm
    intro aG w hm
    refine gR (gM rfl (gb λaU au=>?_))
    have av:=kq.1 au
    refine gY (yG rfl (lh (p:=aG) (q:=(mkS [32])) (u:=aU) rfl rfl rfl av)) (gF o6 rfl (gL hm 1 isAgg42 rfl (gM rfl (gg λaV aw aP=>?_))))
    obtain ⟨bS,bT,bU,he⟩:=nb aE aP
    obtain ⟨rfl,_,rfl⟩:=sl3 he
    refine gI oG aw (lO aP) rfl (gY (yl isAgg9 ((lj (cs:=[(tV aV)]) (hm.now aE) aP rfl).cell (j:=0) rfl) rfl) (gb λax ay=>?_))
    have az:=kq.1 ay
    exact gY (yG rfl (lh (p:=aU) (q:=aV) (u:=ax) rfl rfl rfl az)) (gA rfl (gE (gR (gM rfl (gP (by omega) (by omega) rfl (gA rfl (gE (gze hm [0,1] rfl))))))))
   repeat clear hm
   intro bV bA w hm bW bX
   refine gS (gS (gR (gM rfl (gF o6 rfl (gL hm 1 isAgg42 rfl ?_)))))
   obtain ⟨bY,bZ,rfl,b8⟩:=kT aE
   refine gY (yV oG rfl) (gB rfl (gE (go _ 33 rfl (decide_eq_false (by omega)) (gcf rfl (gXt (gHh (gR (gM rfl (gb λaX bB=>?_)))))))))
   have bC:=kq.1 bB
   refine gY (yG rfl (lh (p:=bA) (q:=(mkS [32,41,32])) (u:=aX) rfl rfl rfl bC)) (gF oE rfl (gL hm 1 isAgg43 rfl (gC hm rfl call60 (ye _ aC.body aI (hm.now aR)) λbD b9 w hm=>gb λbE bF=>?_)))
   have bG:=kq.1 bF
   exact gY (yG rfl (lh (p:=aX) (q:=bD) (u:=bE) rfl rfl rfl bG)) (gA rfl (gE (gR (gM rfl (gP (by omega) (by omega) rfl (gA rfl (gE (gze hm [0] rfl))))))))
  repeat clear hm
  intro ba bb w hm bc bd
  refine gS (gS (gR (gM rfl (gF nu rfl (gL hm 0 isAgg23 rfl ?_)))))
  obtain ⟨be,bf,rfl,bg⟩:=kT h1
  exact gY (yV nz rfl) (gB rfl (gE (go _ 11 rfl (decide_eq_false (by omega)) (gcf rfl (gXt (gHh (gS (gR (gM rfl (gA rfl (gE (gRt (gr1 results25 rfl ⟨rfl,hm.below⟩)))))))))))))
theorem vo (w0:World) (s_:Str) :
    mE Tryz.prog 82 [(tV s_)] w0 (od s_) λr v w'=>v=(.agg #[nV r.kind,(tV r.text)])∧Below w0.heap.size w0 w':=by
  unfold od
  refine mR func82 rfl λr=>?_
  have hm:=Mem.start w0
  refine gS (gR (gAl hm zeroValue47 rfl λaB w hm=>gE (gS (gR (gM rfl (gg λaC aD aE=>gY (yG rfl (mo (p:=s_) underlying9 rfl rfl rfl aD aE)) (gC hm rfl call80 (py _ aC) λaG aH w hm=>gA rfl (gE (gS (gS (gR (gM rfl (gC hm rfl call114 (tA _ s_) λaI aJ w hm=>gE (gJ hm (λaA=>[(0,(tV s_)),(2,(pV aB)),(3,(nV aA))]) (λaA=>[blk aB [nV 0,(tV (mkS []))] 47]) (λaA=>?_) ?_))))))))))))))
  ·refine gs 8 rfl (λaF=>?_) λaF=>?_
   ·exact gct rfl (gR (gA rfl (gE (gz hm [0] rfl))))
   exact gcf rfl (gSk (gz hm [0] rfl))
  repeat clear hm
  intro aA w hm
  exact gS (gR (gM rfl (gM rfl (gY (yG rfl (kr (vs:=[(0,(nV aA)),(1,(tV s_))]) (cs:=#[nV aA,(tV s_)]) rfl rfl (by kernel_rfl))) (gSN hm 0 sizeOf47 (kL rfl (kL rfl ke)) rfl λw hm=>gE (gRt (grc 0 results82 hm rfl isAgg47 sizeOf47 ⟨rfl,hm.below⟩)))))))
theorem zu (w0:World) (s_:Str) :
    mE Tryz.prog 113 [(tV s_)] w0 (rF s_) λr v w'=>v=(.tuple #[nV r.1,(.bool (r.2))])∧Below w0.heap.size w0 w':=by
  unfold rF
  refine mR func113 rfl λr=>?_
  have hm:=Mem.start w0
  refine gS (gR (gA rfl (gA rfl (gE (gS (gJ hm (λaB=>[(0,(tV s_)),(4,(.bool (aB)))]) (λaB=>[]) (λaB=>?_) ?_))))))
  ·refine gR (gM rfl (gY (yG rfl (mD (p:=s_) underlying9 rfl rfl)) ?_))
   have am:=(s_).h
   refine gB rfl (gM rfl (gsd 10 rfl (λaI=>?_) λaI=>?_))
   ·exact gM rfl (gg λaJ aK aL=>gY (yG rfl (mo (p:=s_) underlying9 rfl rfl rfl aK aL)) (gY (yG rfl (uy (b:=aJ) (c:=(45:UInt8)) rfl rfl rfl)) (gKt rfl (gA rfl (gE (gz hm [] rfl))))))
   exact gO rfl (gO rfl (gO rfl (gKf rfl (gA rfl (gE (gz hm [] rfl))))))
  repeat clear hm
  intro aB w hm
  refine gS (gS (gR (gM rfl (gE (gJ hm (λaA=>[(0,(tV aA)),(4,(.bool (aB)))]) (λaA=>[]) (λaA=>?_) ?_)))))
  ·refine gs 15 rfl (λaM=>?_) λaM=>?_
   ·refine gct rfl (gR (gM rfl (gb λan aN=>?_)))
    obtain ⟨aO,aP⟩:=rC.1 aN
    refine gY (yG rfl (bm5 (s:=s_) underlying9 rfl rfl rfl aO _)) ?_
    rw [aP]
    exact gA rfl (gE (gz hm [] rfl))
   exact gcf rfl (gSk (gz hm [] rfl))
  repeat clear hm
  intro aA w hm
  refine gS (gS (gJ hm (λaC=>[(0,(tV aA)),(4,(.bool (aB))),(38,(.bool (aC)))]) (λaC=>[]) (λaC=>?_) ?_))
  ·refine gR (gM rfl (gY (yG rfl (mD (p:=aA) underlying9 rfl rfl)) ?_))
   have ao:=(aA).h
   refine gB rfl (gM rfl (gsd 21 rfl (λaQ=>?_) λaQ=>?_))
   ·exact gO rfl (gO rfl (gO rfl (gKt rfl (gM rfl (gO rfl (gO rfl (gO rfl (gO rfl (gO rfl (gO rfl (gO rfl (gO rfl (gO rfl (gO rfl (gO rfl (gKt rfl (gE (gz hm [] rfl))))))))))))))))))
   refine gM rfl (gY (yG rfl (mD (p:=aA) underlying9 rfl rfl)) (gB rfl (gKf rfl (gM rfl (gsd 26 rfl (λaR=>?_) λaR=>?_)))))
   ·exact gO rfl (gO rfl (gO rfl (gO rfl (gO rfl (gO rfl (gO rfl (gO rfl (gO rfl (gO rfl (gO rfl (gKt rfl (gE (gz hm [] rfl)))))))))))))
   refine gM rfl (gg λaS aT aU=>gY (yG rfl (mo (p:=aA) underlying9 rfl rfl rfl aT aU)) (gY (yG rfl (uy (b:=aS) (c:=(48:UInt8)) rfl rfl rfl)) (gM rfl (gsd 30 rfl (λaV=>?_) λaV=>?_))))
   ·refine gM rfl (gY (yG rfl (mD (p:=aA) underlying9 rfl rfl)) (gB rfl (gM rfl (gsd 34 rfl (λaX=>?_) λaX=>?_))))
    ·exact gO rfl (gKt rfl (gKt rfl (gKf rfl (gE (gz hm [] rfl)))))
    exact gM rfl (gKf rfl (gKt rfl (gKf rfl (gE (gz hm [] rfl)))))
   exact gO rfl (gO rfl (gO rfl (gO rfl (gO rfl (gO rfl (gKf rfl (gKf rfl (gE (gz hm [] rfl)))))))))
  repeat clear hm
  intro aC w hm
  refine gs 38 rfl (λaY=>?_) λaY=>?_
  ·exact gct rfl (gS (gR (gA rfl (gA rfl (gE (gRt (gr2 results113 rfl ⟨rfl,hm.below⟩)))))))
  refine gcf rfl (gSk (gS (gR (gA rfl (gE (gS (gS (gR (gA rfl (gE (gBk (gNf hm (λaD aE=>[(0,(tV aA)),(4,(.bool (aB))),(5,(nV aE)),(6,(nV aD))]) (λaD aE=>[]) [] rfl ?_ ?_))))))))))))
  ·repeat clear hm
   intro aq aZ aD aE w hm ar au av a8
   refine gS (gS (gR (gM rfl (gM rfl (gY (yG rfl (mD (p:=aA) underlying9 rfl rfl)) ?_)))))
   have aw:=(aA).h
   refine gB rfl (gE (go _ 42 rfl (decide_eq_true (by omega)) (gct rfl (gSk (gS (gBk (gS (gS (gJ hm (λaF=>[(0,(tV aA)),(4,(.bool (aB))),(5,(nV aE)),(6,(nV aD)),(54,(.bool (aF)))]) (λaF=>[]) (λaF=>?_) ?_)))))))))
   ·refine gR (gM rfl (gM rfl (gg λaa ab ac=>gY (yG rfl (mo (p:=aA) underlying9 rfl rfl rfl ab ac)) (gY (yG rfl (bw8 (b:=aa) (c:=(48:UInt8)) rfl rfl rfl)) (gM rfl (gsd 49 rfl (λae=>?_) λae=>?_))))))
    ·exact gO rfl (gO rfl (gO rfl (gO rfl (gKt rfl (gE (gz hm [] rfl))))))
    exact gM rfl (gM rfl (gg λaf ag ah=>gY (yG rfl (mo (p:=aA) underlying9 rfl rfl rfl ag ah)) (gY (yG rfl (bx1 (b:=af) (c:=(57:UInt8)) rfl rfl rfl)) (gKf rfl (gE (gz hm [] rfl))))))
   repeat clear hm
   intro aF w hm
   refine gs 54 rfl (λai=>?_) λai=>?_
   ·exact gct rfl (gS (gR (gA rfl (gA rfl (gE (gRt (gLr a8 aZ (gr2 results113 rfl ⟨rfl,hm.below⟩))))))))
   refine gcf rfl (gSk (gR (gM rfl (gB rfl (gM rfl (gM rfl (gg λaH aj ak=>gY (yG rfl (mo (p:=aA) underlying9 rfl rfl rfl aj ak)) (gY (yG rfl (bx6 (b:=aH) (c:=(48:UInt8)) rfl rfl rfl)) (gY (yG rfl (xA (b:=(aH - (48:UInt8))) underlying5 underlying3 rfl rfl)) ?_)))))))))
   have ax:=UInt8.toNat_lt ((aH - (48:UInt8)))
   exact gB rfl (gA rfl (gE (gR (gM rfl (gP (by omega) (by omega) rfl (gA rfl (gE (gze hm [] rfl))))))))
  repeat clear hm
  intro ay az w hm bA bB
  refine gS (gS (gR (gM rfl (gM rfl (gY (yG rfl (mD (p:=aA) underlying9 rfl rfl)) ?_)))))
  have bC:=(aA).h
  refine gB rfl (gE (go _ 42 rfl (decide_eq_false (by omega)) (gcf rfl (gXt (gHh (gS (gS (gR (gM rfl (gE (gJ hm (λaG=>[(5,(nV aG))]) (λaG=>[]) (λaG=>?_) ?_)))))))))))
  ·refine gs 63 rfl (λal=>?_) λal=>?_
   ·exact gct rfl (gR (gM rfl (gY (yG rfl (bt2 rfl rfl)) (gA rfl (gE (gz hm [] rfl))))))
   exact gcf rfl (gSk (gz hm [] rfl))
  repeat clear hm
  intro aG w hm
  exact gS (gR (gM rfl (gA rfl (gA rfl (gE (gRt (gr2 results113 rfl ⟨rfl,hm.below⟩)))))))
theorem sr (w0:World) (w_:kJ) :
    mE Tryz.prog 81 [(.agg #[nV w_.kind,(tV w_.text)])] w0 (nN w_) λr v w'=>v=(.bool (r))∧Below w0.heap.size w0 w':=by
  unfold nN
  refine mR func81 rfl λr=>?_
  have hm:=Mem.start w0
  refine gS (gR (gBx hm rfl λaM w hm=>gA rfl (gE (gS (gS (gR (gF sN rfl (gL hm 0 isAgg3 rfl (gE (gBk (gS (gR (gB rfl (gA rfl (gE (gsd 7 rfl (λaC=>?_) λaC=>?_))))))))))))))))
  ·exact gct rfl (gS (gR (gF o8 rfl (gL hm 0 isAgg9 rfl (gC hm rfl call96 (qQ _ w_.text) λaN aO w hm=>gA rfl (gE (gRt (gr1 results81 rfl ⟨rfl,hm.below⟩))))))))
  refine gcf rfl (gS (gR (gB rfl (gA rfl (gE (gsd 12 rfl (λaD=>?_) λaD=>?_))))))
  ·refine gct rfl (gS (gR (gF o8 rfl (gL hm 0 isAgg9 rfl (gC hm rfl call113 (zu _ w_.text) λaE aP w hm=>gM rfl (gX rfl (gX rfl (gA rfl (gA rfl (gE (gS (gJ hm (λaA=>[(2,(.bool (aA)))]) (λaA=>[]) (λaA=>?_) ?_))))))))))))
   ·refine gR (gM rfl (gM rfl (gs 21 rfl (λaF=>?_) λaF=>?_)))
    ·exact gM rfl (gC hm rfl call56 (pJ _ aE.1 0 255) λaQ aR w hm=>gKt rfl (gA rfl (gE (gz hm [] rfl))))
    exact gO rfl (gO rfl (gKf rfl (gA rfl (gE (gz hm [] rfl)))))
   repeat clear hm
   intro aA w hm
   exact gRt (gr1 results81 rfl ⟨rfl,hm.below⟩)
  refine gcf rfl (gS (gR (gB rfl (gA rfl (gE (gsd 25 rfl (λaG=>?_) λaG=>?_))))))
  ·refine gct rfl (gS (gJ hm (λaB=>[(2,(.bool (aB)))]) (λaB=>[]) (λaB=>?_) ?_))
   ·refine gR (gF o8 rfl (gL hm 0 isAgg9 rfl (gY (yG rfl (mD (p:=w_.text) underlying9 rfl rfl)) ?_)))
    have aS:=(w_.text).h
    refine gB rfl (gM rfl (gsd 31 rfl (λaH=>?_) λaH=>?_))
    ·exact gF o8 rfl (gL hm 0 isAgg9 rfl (gg λaI aJ aK=>gY (yG rfl (mo (p:=w_.text) underlying9 rfl rfl rfl aJ aK)) (gC hm rfl call80 (py _ aI) λaT aU w hm=>gB rfl (gKt rfl (gA rfl (gE (gz hm [] rfl)))))))
    exact gO rfl (gO rfl (gO rfl (gO rfl (gO rfl (gKf rfl (gA rfl (gE (gz hm [] rfl))))))))
   repeat clear hm
   intro aB w hm
   exact gRt (gr1 results81 rfl ⟨rfl,hm.below⟩)
  refine gcf rfl (gS (gR (gB rfl (gA rfl (gE (gsd 38 rfl (λaL=>?_) λaL=>?_))))))
  ·exact gct rfl (gS (gR (gF o8 rfl (gL hm 0 isAgg9 rfl (gC hm rfl call114 (tA _ w_.text) λaV aX w hm=>gA rfl (gE (gRt (gr1 results81 rfl ⟨rfl,hm.below⟩))))))))
  exact gcf rfl (gSk (gS (gR (gA rfl (gE (gRt (gr1 results81 rfl ⟨rfl,hm.below⟩)))))))
theorem x7 (w0:World) (s_:Str) :
    mE Tryz.prog 42 [(tV s_)] w0 (qD s_) λr v w'=>∃ (x1:Value),v=(.tuple #[x1,(.bool (r.2))])∧Mem w0 (hp w0) w' [ow [x1] r.1]:=by
  unfold qD
  refine mR func42 rfl λr=>?_
  have hm:=Mem.start w0
  refine gS (gR (gA rfl (gA rfl (gE (gS (gR (gf rfl (λa hf=>nZ (α:=kJ) mG hm rfl) ?_)))))))
  rintro bH w hm
  refine gA rfl (gE (gS (gS (gR (gA rfl (gE ?_))))))
  obtain ⟨aS,aT,rfl,bJ⟩:=kT (hm.ow_rep 0 rfl)
  refine tX (λaN a w=>∃ (aD:Value),St 75 [(0,(tV s_)),(4,aD)] w0 (hp w0) [ow [aD] aN] a w) (λbK aU=>?_) ?_
  ·refine gBk (gMg (λaA a w=>∃ (aE:Value),St 75 [(0,(tV s_)),(4,aE),(5,(nV aA.2))] w0 (hp w0) [ow [aE] aA.1] a w) (λa hf=>⟨.slice aS ([]:List kJ).length aT,hf.sb rfl,hm.pk [0] rfl rfl⟩) ?_)
   repeat clear hm
   rintro bL aP aA a w ⟨aE,hf,hm⟩ bM aQ
   refine gv hf (gS (gS (gJ hm (λaH=>[(0,(tV s_)),(4,aE),(5,(nV aA.2)),(17,(.bool (aH)))]) (λaH=>[ow [aE] aA.1]) (λaH=>?_) ?_)))
   ·refine gR (gM rfl (gM rfl (gY (yG rfl (mD (p:=s_) underlying9 rfl rfl)) ?_)))
    have bN:=(s_).h
    refine gB rfl (gM rfl (gsd 13 rfl (λaV=>?_) λaV=>?_))
    ·exact gM rfl (gY (yG rfl (mD (p:=s_) underlying9 rfl rfl)) (gB rfl (gKt rfl (gE (gz hm [0] rfl)))))
    exact gO rfl (gO rfl (gO rfl (gKf rfl (gE (gz hm [0] rfl)))))
   repeat clear hm
   intro aH w hm
   refine gs 17 rfl (λaX=>?_) λaX=>?_
   ·refine gct rfl (gSk (gBk (gS (gR (gM rfl (gM rfl (gg λaY aZ a8=>gY (yG rfl (mo (p:=s_) underlying9 rfl rfl rfl aZ a8)) (gC hm rfl call80 (py _ aY) λaO bO w hm=>gA rfl (gE (gS (gR (gM rfl (gB rfl (gA rfl (gE (gS ?_))))))))))))))))
    obtain ⟨aB,aC,rfl,bP⟩:=kT (hm.ow_rep 0 rfl)
    refine gJ hm (λaF=>[(0,(tV s_)),(4,(.slice aB aA.1.length aC)),(5,(nV aA.2)),(6,(nV aO)),(7,(nV aF))]) (λaF=>[ow [.slice aB aA.1.length aC] aA.1]) (λaF=>?_) ?_
    ·refine gBk (gMf hm (λaI=>[(0,(tV s_)),(4,(.slice aB aA.1.length aC)),(5,(nV aA.2)),(6,(nV aO)),(7,(nV aI))]) (λaI=>[ow [.slice aB aA.1.length aC] aA.1]) [0] rfl ?_)
     repeat clear hm
     intro bQ aa aI w hm bR ab
     refine gS (gS (gJ hm (λaJ=>[(0,(tV s_)),(4,(.slice aB aA.1.length aC)),(5,(nV aA.2)),(6,(nV aO)),(7,(nV aI)),(39,(.bool (aJ)))]) (λaJ=>[ow [.slice aB aA.1.length aC] aA.1]) (λaJ=>?_) ?_))
     ·refine gR (gM rfl (gM rfl (gY (yG rfl (mD (p:=s_) underlying9 rfl rfl)) ?_)))
      have bS:=(s_).h
      refine gB rfl (gM rfl (gsd 28 rfl (λac=>?_) λac=>?_))
      ·refine gM rfl (gM rfl (gg λae af ag=>gY (yG rfl (mo (p:=s_) underlying9 rfl rfl rfl af ag)) (gC hm rfl call80 (py _ ae) λbT bU w hm=>gM rfl (gB rfl (gKt rfl (gM rfl (gsd 36 rfl (λah=>?_) λah=>?_)))))))
       ·exact gM rfl (gB rfl (gKt rfl (gE (gz hm [0] rfl))))
       exact gO rfl (gO rfl (gKf rfl (gE (gz hm [0] rfl))))
      exact gO rfl (gO rfl (gO rfl (gO rfl (gO rfl (gO rfl (gKf rfl (gM rfl (gO rfl (gO rfl (gKf rfl (gE (gz hm [0] rfl))))))))))))
     repeat clear hm
     intro aJ w hm
     refine gs 39 rfl (λai=>?_) λai=>?_
     ·exact gct rfl (gSk (gBk (gR (gM rfl (gB rfl (gA rfl (gE (gze hm [0] rfl))))))))
     exact gcf rfl (gXt (gHh (gLp ab aa (gz hm [0] rfl))))
    repeat clear hm
    intro aF w hm
    refine gS (gS (gR (gM rfl (gB rfl (gE (tX (λaR a w=>∃ (aK:Value),St 75 [(0,(tV s_)),(4,aK),(7,(nV aF))] w0 (hp w0) [ow [aK] aR] a w) (λbV aj=>?_) ?_))))))
    ·refine gsd 43 rfl (λak=>?_) λak=>?_
     ·refine gct rfl (gS (gS (gJ hm (λaL=>[(0,(tV s_)),(4,(.slice aB aA.1.length aC)),(5,(nV aA.2)),(7,(nV aF)),(54,(.bool (aL)))]) (λaL=>[ow [.slice aB aA.1.length aC] aA.1]) (λaL=>?_) ?_)))
      ·refine gR (gM rfl (gB rfl (gM rfl (gsd 46 rfl (λal=>?_) λal=>?_))))
       ·exact gO rfl (gO rfl (gO rfl (gO rfl (gO rfl (gO rfl (gO rfl (gKt rfl (gE (gz hm [0] rfl)))))))))
       refine gM rfl (gM rfl (gM rfl (gb λam an=>?_)))
       obtain ⟨ao,aq⟩:=rC.1 an
       refine gY (yG rfl (zT (s:=s_) underlying9 rfl rfl rfl rfl ao _)) ?_
       rw [aq]
       exact gC hm rfl call82 (vo _ am) λar bW w hm=>gC hm rfl call81 (sr _ ar) λbX bY w hm=>gN rfl (gKf rfl (gE (gz hm [0] rfl)))
      repeat clear hm
      intro aL w hm
      refine gs 54 rfl (λau=>?_) λau=>?_
      ·refine gct rfl (gS (gR (gf rfl (λa hf=>nZ (α:=kJ) mG hm rfl) ?_)))
       rintro av w hm
       exact gA rfl (gA rfl (gE (gRt (gEr aj (gLp aQ aP (gl (gEr aU (gr2 results42 rfl ⟨av,rfl,hm.pk [0] rfl rfl⟩))))))))
      refine gcf rfl (gSk (gR (gM rfl (gM rfl (gM rfl (gM rfl (gb λaw ax=>?_)))))))
      obtain ⟨ay,az⟩:=rC.1 ax
      refine gY (yG rfl (zT (s:=s_) underlying9 rfl rfl rfl rfl ay _)) ?_
      rw [az]
      refine gC hm rfl call82 (vo _ aw) λaG bZ w hm=>gf rfl (λa hf=>kS (vs:=#[(0,(.agg #[nV aG.kind,(tV aG.text)]))]) (cs:=[nV aG.kind,(tV aG.text)]) mG hf hm rfl rfl (by kernel_rfl) rfl rfl) ?_
      rintro _ w ⟨b8,rfl,hm⟩
      replace hm:=hm.lit (xs:=([aG]:List kJ)) 0 rfl rfl rfl rfl
      refine gb λb9 bA=>?_
      obtain ⟨bB,bC⟩:=kb.1 bA
      refine gf rfl (λa hf=>lr 1 mG hf hm rfl (hm.ow_rep 0 rfl) rfl rfl rfl bB) ?_
      rintro bD w hm
      rw [bC] at hm
      exact gA rfl (gE (gZe λa hf=>⟨bD,hf.sb rfl,hm.pk [1] rfl rfl⟩))
     exact gcf rfl (gSk (gZe λa hf=>⟨.slice aB aA.1.length aC,hf.sb rfl,hm.pk [0] rfl rfl⟩))
    repeat clear hm
    rintro aR a w ⟨aK,hf,hm⟩
    exact gv hf (gR (gM rfl (gA rfl (gE (gZe λa hf=>⟨aK,hf.sb rfl,hm.pk [0] rfl rfl⟩)))))
   exact gcf rfl (gXt (gHh (gLp aQ aP (gr (gZe λa hf=>⟨aE,hf.sb rfl,hm.pk [0] rfl rfl⟩)))))
  repeat clear hm
  rintro aN a w ⟨aD,hf,hm⟩
  refine gv hf (gS (gS (gJ hm (λaM=>[(4,aD),(72,(.bool (aM)))]) (λaM=>[ow [aD] aN]) (λaM=>?_) ?_)))
  ·refine gR (gM rfl (gY (yG rfl (mD (p:=s_) underlying9 rfl rfl)) ?_))
   have ba:=(s_).h
   refine gB rfl (gM rfl (gsd 68 rfl (λbE=>?_) λbE=>?_))
   ·exact gO rfl (gO rfl (gO rfl (gKt rfl (gE (gz hm [0] rfl)))))
   refine gM rfl ?_
   obtain ⟨bb,bc,rfl,bd⟩:=kT (hm.ow_rep 0 rfl)
   exact gY (yV rU rfl) (gB rfl (gKf rfl (gE (gz hm [0] rfl))))
  repeat clear hm
  intro aM w hm
  refine gs 72 rfl (λbF=>?_) λbF=>?_
  ·refine gct rfl (gS (gR (gf rfl (λa hf=>nZ (α:=kJ) mG hm rfl) ?_)))
   rintro bG w hm
   exact gA rfl (gA rfl (gE (gRt (gr2 results42 rfl ⟨bG,rfl,hm.pk [0] rfl rfl⟩))))
  exact gcf rfl (gSk (gS (gR (gM rfl (gA rfl (gA rfl (gE (gRt (gr2 results42 rfl ⟨aD,rfl,hm.pk [0] rfl rfl⟩)))))))))
theorem wy (w0:World) (list:List kJ) (v1:Value) (h1:GT.rep (hp w0) [v1] list) :
    mE Tryz.prog 59 [v1] w0 (pd list) λr v w'=>v=(.tuple #[(tV r.1),(.bool (r.2))])∧Below w0.heap.size w0 w':=by
  unfold pd
  refine mR func59 rfl λr=>?_
  have hm:=Mem.start w0
  refine gS (gR (gA rfl (gA rfl (gE (gS (gR (gA rfl (gE (gS (gS (gR (gA rfl (gE (gJe hm (λaB=>[(0,v1),(4,(tV aB))]) (λaB=>[]) (λaa aK=>?_) ?_))))))))))))))
  ·refine gBk (gMf hm (λaA=>[(0,v1),(4,(tV aA.1)),(5,(nV aA.2))]) (λaA=>[]) [] rfl ?_)
   repeat clear hm
   intro ab aH aA w hm ac aI
   refine gS (gS (gJ hm (λaF=>[(0,v1),(4,(tV aA.1)),(5,(nV aA.2)),(14,(.bool (aF)))]) (λaF=>[]) (λaF=>?_) ?_))
   ·refine gR (gM rfl (gM rfl ?_))
    obtain ⟨ae,af,rfl,ag⟩:=kT h1
    refine gY (yV rU rfl) (gB rfl (gM rfl (gsd 10 rfl (λaL=>?_) λaL=>?_)))
    ·exact gM rfl (gY (yV rU rfl) (gB rfl (gKt rfl (gE (gz hm [] rfl)))))
    exact gO rfl (gO rfl (gO rfl (gKf rfl (gE (gz hm [] rfl)))))
   repeat clear hm
   intro aF w hm
   refine gs 14 rfl (λaM=>?_) λaM=>?_
   ·refine gct rfl (gSk (gS (gBk (gS (gS (gR (gM rfl (gM rfl (gg λaC aJ aD=>?_)))))))))
    obtain ⟨aN,aO,aP,he⟩:=nb h1 aD
    subst he
    refine gI rU aJ (lO aD) rfl (gY (yn (lj (cs:=[nV aC.kind,(tV aC.text)]) (hm.now h1) aD rfl) isAgg47 sizeOf47 rfl) (gC hm rfl call81 (sr _ aC) λah ai w hm=>gN rfl (gE (gsn 22 rfl (λaQ=>?_) λaQ=>?_))))
    ·exact gct rfl (gS (gR (gA rfl (gA rfl (gE (gRt (gLp aI aH (gl (gEr aK (gr2 results59 rfl ⟨rfl,hm.below⟩))))))))))
    refine gcf rfl (gSk (gS (gS (gR (gM rfl (gB rfl (gE (gJ hm (λaE=>[(0,(sV aN aO list.length aP)),(4,(tV aE)),(5,(nV aA.2))]) (λaE=>[]) (λaE=>?_) ?_))))))))
    ·refine gsd 24 rfl (λaR=>?_) λaR=>?_
     ·refine gct rfl (gR (gM rfl (gb λaS aT=>?_)))
      have aU:=kq.1 aT
      exact gY (yG rfl (lh (p:=aA.1) (q:=(mkS [32])) (u:=aS) rfl rfl rfl aU)) (gA rfl (gE (gz hm [] rfl)))
     exact gcf rfl (gSk (gz hm [] rfl))
    repeat clear hm
    intro aE w hm
    refine gR (gM rfl (gM rfl (gM rfl (gI rU aJ (lO aD) rfl (gF o8 rfl (gY (yl isAgg9 ((lj (cs:=[nV aC.kind,(tV aC.text)]) (hm.now h1) aD rfl).cell (j:=1) rfl) rfl) (gb λaV aX=>?_)))))))
    have aY:=kq.1 aX
    exact gY (yG rfl (lh (p:=aE) (q:=aC.text) (u:=aV) rfl rfl rfl aY)) (gA rfl (gE (gR (gM rfl (gB rfl (gA rfl (gE (gze hm [] rfl))))))))
   exact gcf rfl (gXt (gHh (gLp aI aH (gr (gze hm [] rfl)))))
  repeat clear hm
  intro aB w hm
  refine gS (gS (gJ hm (λaG=>[(4,(tV aB)),(41,(.bool (aG)))]) (λaG=>[]) (λaG=>?_) ?_))
  ·refine gR (gM rfl ?_)
   obtain ⟨aj,ak,rfl,al⟩:=kT h1
   refine gY (yV rU rfl) (gB rfl (gM rfl (gsd 37 rfl (λaZ=>?_) λaZ=>?_)))
   ·exact gO rfl (gO rfl (gO rfl (gKt rfl (gE (gz hm [] rfl)))))
   refine gM rfl (gY (yG rfl (mD (p:=aB) underlying9 rfl rfl)) ?_)
   have am:=(aB).h
   exact gB rfl (gKf rfl (gE (gz hm [] rfl)))
  repeat clear hm
  intro aG w hm
  refine gs 41 rfl (λa8=>?_) λa8=>?_
  ·exact gct rfl (gS (gR (gA rfl (gA rfl (gE (gRt (gr2 results59 rfl ⟨rfl,hm.below⟩)))))))
  exact gcf rfl (gSk (gS (gR (gM rfl (gA rfl (gA rfl (gE (gRt (gr2 results59 rfl ⟨rfl,hm.below⟩)))))))))
theorem xG (w0:World) (s_:Str) :
    mE Tryz.prog 24 [(tV s_)] w0 (qO s_) λr v w'=>v=(.tuple #[(tV r.1),(.bool (r.2))])∧Below w0.heap.size w0 w':=by
  unfold qO
  refine mR func24 rfl λr=>?_
  have hm:=Mem.start w0
  refine gS (gR (gA rfl (gA rfl (gE (gS (gR (gM rfl (gCg rfl call42 (x7 _ s_) ?_))))))))
  rintro aA aD aE w ⟨aB,rfl,hB⟩
  replace hm:=hm.give hB;clear hB
  refine gM rfl (gX rfl (gX rfl (gA rfl (gA rfl (gE (gS (gS (gR (gM rfl (gN rfl (gE (gsn 12 rfl (λaC=>?_) λaC=>?_))))))))))))
  ·exact gct rfl (gS (gR (gA rfl (gA rfl (gE (gRt (gr2 results24 rfl ⟨rfl,hm.below⟩)))))))
  exact gcf rfl (gSk (gS (gR (gM rfl (gC hm rfl call59 (wy _ aA.1 aB (hm.ow_rep 0 rfl)) λaF aG w hm=>gX rfl (gX rfl (gA rfl (gA rfl (gE (gRt (gr2 results24 rfl ⟨rfl,hm.below⟩)))))))))))
theorem wO (w0:World) (p_:kp) (v1:Value) (h1:GT.rep (hp w0) [v1] p_.fns) :
    mE Tryz.prog 7 [(.agg #[v1])] w0 (oh p_) λr v w'=>v=(.tuple #[(tV r.1),(.bool (r.2))])∧Below w0.heap.size w0 w':=by
  unfold oh
  refine mR func7 rfl λr=>?_
  have hm:=Mem.start w0
  refine gS (gR (gBx hm rfl λaC w hm=>gA rfl (gA rfl (gE (gS (gS (gR (gY (yn (hm.blk_at 0 rfl) isAgg25 sizeOf25 rfl) (gC hm rfl call23 (sE _ p_ v1 (hm.now h1)) λaD aE w hm=>gN rfl (gE (gsn 6 rfl (λaA=>?_) λaA=>?_)))))))))))
  ·exact gct rfl (gS (gR (gA rfl (gA rfl (gE (gRt (gr2 results7 rfl ⟨rfl,hm.below⟩)))))))
  exact gcf rfl (gSk (gS (gR (gY (yn (hm.blk_at 0 rfl) isAgg25 sizeOf25 rfl) (gC hm rfl call25 (zQ _ p_ v1 (hm.now h1)) λaB aF w hm=>gC hm rfl call24 (xG _ aB) λaG aH w hm=>gX rfl (gX rfl (gA rfl (gA rfl (gE (gRt (gr2 results7 rfl ⟨rfl,hm.below⟩)))))))))))
theorem wU (w0:World) (p0:UInt8) :
    mE Tryz.prog 46 [(.int .u8 ((p0).toNat:Int))] w0 (px p0) λr v w'=>v=(.bool (r))∧Below w0.heap.size w0 w':=by
  unfold px
  refine mR func46 rfl λr=>?_
  have hm:=Mem.start w0
  exact gS (gR (gA rfl (gE (gS (gR (gA rfl (gE (gRt (gr1 results46 rfl ⟨rfl,hm.below⟩)))))))))
theorem rX (w0:World) (b_:UInt8) :
    mE Tryz.prog 47 [(.int .u8 ((b_).toNat:Int))] w0 (nM b_) λr v w'=>v=(.bool (r))∧Below w0.heap.size w0 w':=by
  unfold nM
  refine mR func47 rfl λr=>?_
  have hm:=Mem.start w0
  refine gS (gR (gA rfl (gE (gS (gJ hm (λaA=>[(2,(.bool (aA)))]) (λaA=>[]) (λaA=>?_) ?_)))))
  ·refine gR (gM rfl (gY (yG rfl (xd (b:=(97:UInt8)) (c:=b_) rfl rfl rfl)) (gM rfl (gsd 5 rfl (λaB=>?_) λaB=>?_))))
   ·exact gM rfl (gY (yG rfl (xd (b:=b_) (c:=(122:UInt8)) rfl rfl rfl)) (gKt rfl (gA rfl (gE (gz hm [] rfl)))))
   exact gO rfl (gO rfl (gKf rfl (gA rfl (gE (gz hm [] rfl)))))
  repeat clear hm
  intro aA w hm
  exact gRt (gr1 results47 rfl ⟨rfl,hm.below⟩)
theorem zj (w0:World) (s_:Str) (hG0:GT.rep (hp w0) [.slice (some ⟨0,0,none⟩) 9 9] k7) :
    mE Tryz.prog 49 [(tV s_)] w0 (rG s_) λr v w'=>v=(.agg #[nV r.kind,(tV r.text)])∧Below w0.heap.size w0 w':=by
  unfold rG
  refine mR func49 rfl λr=>?_
  have hm:=Mem.start w0
  refine gS (gR (gAl hm zeroValue47 rfl λaJ w hm=>gE (gS (gBk (gS (gR (gM rfl (gg λaA aB aC=>gY (yG rfl (mo (p:=s_) underlying9 rfl rfl rfl aB aC)) (gC hm rfl call48 (qs _ aA) λaK aL w hm=>gA rfl (gE (gs 3 rfl (λaD=>?_) λaD=>?_)))))))))))
  ·exact gct rfl (gS (gR (gM rfl (gY (yG rfl (kr (vs:=[(0,(nV 2)),(1,(tV s_))]) (cs:=#[nV 2,(tV s_)]) rfl rfl (by kernel_rfl))) (gSN hm 0 sizeOf47 (kL rfl (kL rfl ke)) rfl λw hm=>gE (gRt (grc 0 results49 hm rfl isAgg47 sizeOf47 ⟨rfl,hm.below⟩)))))))
  refine gcf rfl (gS (gR (gY (yG rfl (zd (n:=9) underlying100 rfl rfl sizeOf9)) (gM rfl (gC hm rfl call69 (nX _ k7 (sV 0 0 9 9) (hm.now hG0) s_) λaM aN w hm=>gA rfl (gE (gs 9 rfl (λaE=>?_) λaE=>?_)))))))
  ·exact gct rfl (gS (gR (gM rfl (gY (yG rfl (kr (vs:=[(0,(nV 4)),(1,(tV s_))]) (cs:=#[nV 4,(tV s_)]) rfl rfl (by kernel_rfl))) (gSN hm 0 sizeOf47 (kL rfl (kL rfl ke)) rfl λw hm=>gE (gRt (grc 0 results49 hm rfl isAgg47 sizeOf47 ⟨rfl,hm.below⟩)))))))
  refine gcf rfl (gS (gR (gM rfl (gg λaF aG aH=>gY (yG rfl (mo (p:=s_) underlying9 rfl rfl rfl aG aH)) (gC hm rfl call47 (rX _ aF) λaO aP w hm=>gA rfl (gE (gs 15 rfl (λaI=>?_) λaI=>?_)))))))
  ·exact gct rfl (gS (gR (gM rfl (gY (yG rfl (kr (vs:=[(0,(nV 1)),(1,(tV s_))]) (cs:=#[nV 1,(tV s_)]) rfl rfl (by kernel_rfl))) (gSN hm 0 sizeOf47 (kL rfl (kL rfl ke)) rfl λw hm=>gE (gRt (grc 0 results49 hm rfl isAgg47 sizeOf47 ⟨rfl,hm.below⟩)))))))
  exact gcf rfl (gSk (gS (gR (gM rfl (gY (yG rfl (kr (vs:=[(0,(nV 3)),(1,(tV s_))]) (cs:=#[nV 3,(tV s_)]) rfl rfl (by kernel_rfl))) (gSN hm 0 sizeOf47 (kL rfl (kL rfl ke)) rfl λw hm=>gE (gRt (grc 0 results49 hm rfl isAgg47 sizeOf47 ⟨rfl,hm.below⟩))))))))
theorem tJ (w0:World) (s_:Str) (hG0:GT.rep (hp w0) [.slice (some ⟨0,0,none⟩) 9 9] k7) :
    mE Tryz.prog 15 [(tV s_)] w0 (o9 s_) λr v w'=>∃ (x1:Value),v=(.tuple #[x1,(.bool (r.2))])∧Mem w0 (hp w0) w' [ow [x1] r.1]:=by
  unfold o9
  refine mR func15 rfl λr=>?_
  have hm:=Mem.start w0
  refine gS (gR (gA rfl (gA rfl (gE (gS (gS (gR (gM rfl (gY (yG rfl (mD (p:=s_) underlying9 rfl rfl)) ?_)))))))))
  have bR:=(s_).h
  refine gB rfl (gE (gsd 11 rfl (λaY=>?_) λaY=>?_))
  ·refine gct rfl (gS (gR (gA rfl (gA rfl (gE (gRt ?_))))))
   replace hm:=hm.nilow (α:=kJ)
   exact gr2 results15 rfl ⟨.slice none 0 0,rfl,hm.pk [0] rfl rfl⟩
  refine gcf rfl (gSk (gS (gR (gA rfl (gE (gS (gS (gR (gA rfl (gE (tX (λaT a w=>∃ (aH:Value),St 72 [(4,aH)] w0 (hp w0) [ow [aH] aT] a w) (λbS aZ=>?_) ?_)))))))))))
  ·refine gBk ?_
   replace hm:=hm.nilow (α:=kJ)
   refine gMg (λaA a w=>∃ (aB:Value),St 72 [(0,(tV s_)),(4,aB),(5,(nV aA.2))] w0 (hp w0) [ow [aB] aA.1] a w) (λa hf=>⟨.slice none 0 0,hf.sb rfl,hm.pk [0] rfl rfl⟩) ?_
   repeat clear hm
   rintro bT aU aA a w ⟨aB,hf,hm⟩ bU aV
   refine gv hf (gS (gS (gR (gM rfl (gM rfl (gY (yG rfl (mD (p:=s_) underlying9 rfl rfl)) (gB rfl (gE (gsd 15 rfl (λa8=>?_) λa8=>?_)))))))))
   ·refine gct rfl (gSk (tX (λaP a w=>∃ (aI:Value),St 72 [(0,(tV s_)),(4,aI),(5,(nV aP.2))] w0 (hp w0) [ow [aI] aP.1] a w) (λbV aa=>?_) ?_))
    ·refine gBk (gS (gS (gJ hm (λaJ=>[(0,(tV s_)),(4,aB),(5,(nV aA.2)),(25,(.bool (aJ)))]) (λaJ=>[ow [aB] aA.1]) (λaJ=>?_) ?_)))
     ·refine gR (gM rfl (gM rfl (gg λab ac ae=>gY (yG rfl (mo (p:=s_) underlying9 rfl rfl rfl ac ae)) (gY (yG rfl (uy (b:=ab) (c:=(32:UInt8)) rfl rfl rfl)) (gM rfl (gsd 20 rfl (λaf=>?_) λaf=>?_))))))
      ·exact gO rfl (gO rfl (gO rfl (gO rfl (gKt rfl (gE (gz hm [0] rfl))))))
      exact gM rfl (gM rfl (gg λag ah ai=>gY (yG rfl (mo (p:=s_) underlying9 rfl rfl rfl ah ai)) (gY (yG rfl (uy (b:=ag) (c:=(10:UInt8)) rfl rfl rfl)) (gKf rfl (gE (gz hm [0] rfl))))))
     repeat clear hm
     intro aJ w hm
     refine gs 25 rfl (λaj=>?_) λaj=>?_
     ·exact gct rfl (gS (gR (gM rfl (gB rfl (gA rfl (gE (gXt (gHh (gZe λa hf=>⟨aB,hf.sb rfl,hm.pk [0] rfl rfl⟩)))))))))
     refine gcf rfl (gSk (gS (gR (gA rfl (gE (gS (gJg (λaQ a w=>∃ (aF:Value),(∀ (w:World) (y0:UInt8) (r:Bool),Below w0.heap.size w0 w→aQ y0=some r→yR Tryz.prog aF [(.int .u8 ((y0).toNat:Int))] w (λv w'=>v=(.bool (r))∧Below w.heap.size w w'))∧St 72 [(0,(tV s_)),(4,aB),(5,(nV aA.2)),(6,aF)] w0 (hp w0) [ow [aB] aA.1] a w) (λaQ=>?_) ?_)))))))
     ·refine gBk (gS (gR (gM rfl (gM rfl (gg λak al am=>gY (yG rfl (mo (p:=s_) underlying9 rfl rfl rfl al am)) (gC hm rfl call47 (rX _ ak) λbW bX w hm=>gA rfl (gE (gJg (λaR a w=>∃ (aK:Value),(∀ (w:World) (y0:UInt8) (r:Bool),Below w0.heap.size w0 w→aR y0=some r→yR Tryz.prog aK [(.int .u8 ((y0).toNat:Int))] w (λv w'=>v=(.bool (r))∧Below w.heap.size w w'))∧St 72 [(0,(tV s_)),(4,aB),(5,(nV aA.2)),(6,aK)] w0 (hp w0) [ow [aB] aA.1] a w) (λaR=>?_) ?_))))))))
      ·refine gs 28 rfl (λan=>?_) λan=>?_
       ·exact gct rfl (gR (gA rfl (gE (gZ λa hf=>⟨(.func (.func 47) #[] #[]),(λw y0 r _ hq=>⟨47,[],rfl,call47,rX w y0 r hq⟩),hf.sb rfl,hm.pk [0] rfl rfl⟩))))
       refine gcf rfl (gS (gR (gM rfl (gM rfl (gg λao aq ar=>gY (yG rfl (mo (p:=s_) underlying9 rfl rfl rfl aq ar)) (gC hm rfl call48 (qs _ ao) λbY bZ w hm=>gA rfl (gE (gJg (λaS a w=>∃ (aL:Value),(∀ (w:World) (y0:UInt8) (r:Bool),Below w0.heap.size w0 w→aS y0=some r→yR Tryz.prog aL [(.int .u8 ((y0).toNat:Int))] w (λv w'=>v=(.bool (r))∧Below w.heap.size w w'))∧St 72 [(0,(tV s_)),(4,aB),(5,(nV aA.2)),(6,aL)] w0 (hp w0) [ow [aB] aA.1] a w) (λaS=>?_) ?_))))))))
       ·refine gs 33 rfl (λau=>?_) λau=>?_
        ·exact gct rfl (gR (gA rfl (gE (gZ λa hf=>⟨(.func (.func 48) #[] #[]),(λw y0 r _ hq=>⟨48,[],rfl,call48,qs w y0 r hq⟩),hf.sb rfl,hm.pk [0] rfl rfl⟩))))
        exact gcf rfl (gSk (gZ λa hf=>⟨(.func (.func 46) #[] #[]),(λw y0 r _ hq=>⟨46,[],rfl,call46,wU w y0 r hq⟩),hf.sb rfl,hm.pk [0] rfl rfl⟩))
       repeat clear hm
       rintro aS a w ⟨aL,av,hf,hm⟩
       exact gv hf (gZ λa hf=>⟨aL,av,hf.sb rfl,hm.pk [0] rfl rfl⟩)
      repeat clear hm
      rintro aR a w ⟨aK,aw,hf,hm⟩
      exact gv hf (gZ λa hf=>⟨aK,aw,hf.sb rfl,hm.pk [0] rfl rfl⟩)
     repeat clear hm
     rintro aQ a w ⟨aF,ax,hf,hm⟩
     refine gv hf (gS (gR (gM rfl (gB rfl (gA rfl (gE (gS ?_)))))))
     obtain ⟨aC,aD,rfl,b8⟩:=kT (hm.ow_rep 0 rfl)
     refine gJ hm (λaG=>[(0,(tV s_)),(4,(.slice aC aA.1.length aD)),(5,(nV aA.2)),(7,(nV aG))]) (λaG=>[ow [.slice aC aA.1.length aD] aA.1]) (λaG=>?_) ?_
     ·refine gBk (gMf hm (λaM=>[(0,(tV s_)),(4,(.slice aC aA.1.length aD)),(5,(nV aA.2)),(6,aF),(7,(nV aM))]) (λaM=>[ow [.slice aC aA.1.length aD] aA.1]) [0] rfl ?_)
      repeat clear hm
      intro b9 ay aM w hm ba az
      refine gS (gS (gJ hm (λaN=>[(0,(tV s_)),(4,(.slice aC aA.1.length aD)),(5,(nV aA.2)),(6,aF),(7,(nV aM)),(50,(.bool (aN)))]) (λaN=>[ow [.slice aC aA.1.length aD] aA.1]) (λaN=>?_) ?_))
      ·refine gR (gM rfl (gM rfl (gY (yG rfl (mD (p:=s_) underlying9 rfl rfl)) (gB rfl (gM rfl (gsd 44 rfl (λbA=>?_) λbA=>?_))))))
       ·refine gM rfl (gM rfl (gM rfl (gg λbB bC bD=>gY (yG rfl (mo (p:=s_) underlying9 rfl rfl rfl bC bD)) (gb λbb bE=>gf rfl (λa hf=>tn hf rfl rfl rfl (ax _ bB _ hm.below bE)) ?_))))
        rintro bc w ⟨rfl,hB⟩
        replace hm:=hm.below' hB;clear hB
        exact gKt rfl (gE (gz hm [0] rfl))
       exact gO rfl (gO rfl (gO rfl (gO rfl (gO rfl (gKf rfl (gE (gz hm [0] rfl)))))))
      repeat clear hm
      intro aN w hm
      refine gs 50 rfl (λbF=>?_) λbF=>?_
      ·exact gct rfl (gSk (gBk (gR (gM rfl (gB rfl (gA rfl (gE (gze hm [0] rfl))))))))
      exact gcf rfl (gXt (gHh (gLp az ay (gz hm [0] rfl))))
     repeat clear hm
     intro aG w hm
     refine gS (gR (gM rfl (gM rfl (gM rfl (gb λbG bH=>?_)))))
     obtain ⟨bJ,bK⟩:=rC.1 bH
     refine gY (yG rfl (zT (s:=s_) underlying9 rfl rfl rfl rfl bJ _)) ?_
     rw [bK]
     refine gC hm rfl call49 (zj _ bG (hm.now hG0)) λaE bd w hm=>gAl hm zeroValue47 rfl λaX w hm=>gSN hm 0 sizeOf47 (kL rfl (kL rfl ke)) rfl λw hm=>gE (gS (gS (gJ hm (λaO=>[(0,(tV s_)),(4,(.slice aC aA.1.length aD)),(7,(nV aG)),(8,(pV aX)),(65,(.bool (aO)))]) (λaO=>[ow [.slice aC aA.1.length aD] aA.1,blk aX [nV aE.kind,(tV aE.text)] 47]) (λaO=>?_) ?_)))
     ·refine gR (gY (yn (hm.blk_at 0 rfl) isAgg47 sizeOf47 rfl) (gC hm rfl call50 (sq _ aE (hm.now hG0)) λbe bf w hm=>gN rfl (gM rfl (gsn 61 rfl (λbL=>?_) λbL=>?_))))
      ·exact gO rfl (gO rfl (gO rfl (gKt rfl (gE (gz hm [1,0] rfl)))))
      exact gM rfl (gY (yV rU rfl) (gB rfl (gKf rfl (gE (gz hm [1,0] rfl)))))
     repeat clear hm
     intro aO w hm
     refine gs 65 rfl (λbM=>?_) λbM=>?_
     ·refine gct rfl (gS (gR (gA rfl (gA rfl (gE (gRt (gEr aa (gLp aV aU (gl (gEr aZ ?_))))))))))
      replace hm:=hm.nilow (α:=kJ)
      exact gr2 results15 rfl ⟨.slice none 0 0,rfl,hm.pk [0] rfl rfl⟩
     refine gcf rfl (gSk (gS (gR (gM rfl (gY (yn (hm.blk_at 1 rfl) isAgg47 sizeOf47 rfl) (gf rfl (λa hf=>kS (vs:=#[(0,(.agg #[nV aE.kind,(tV aE.text)]))]) (cs:=[nV aE.kind,(tV aE.text)]) mG hf hm rfl rfl (by kernel_rfl) rfl rfl) ?_))))))
     rintro _ w ⟨bg,rfl,hm⟩
     replace hm:=hm.lit (xs:=([aE]:List kJ)) 0 rfl rfl rfl rfl
     refine gb λbh bN=>?_
     obtain ⟨bO,bP⟩:=kb.1 bN
     refine gf rfl (λa hf=>lr 1 mG hf hm rfl (hm.ow_rep 0 rfl) rfl rfl rfl bO) ?_
     rintro bQ w hm
     rw [bP] at hm
     exact gA rfl (gE (gR (gM rfl (gA rfl (gE (gZe λa hf=>⟨bQ,hf.sb rfl,hm.pk [1] rfl rfl⟩))))))
    repeat clear hm
    rintro aP a w ⟨aI,hf,hm⟩
    exact gv hf (gZe λa hf=>⟨aI,hf.sb rfl,hm.pk [0] rfl rfl⟩)
   exact gcf rfl (gXt (gHh (gLp aV aU (gr (gZe λa hf=>⟨aB,hf.sb rfl,hm.pk [0] rfl rfl⟩)))))
  repeat clear hm
  rintro aT a w ⟨aH,hf,hm⟩
  exact gv hf (gS (gR (gM rfl (gA rfl (gA rfl (gE (gRt (gr2 results15 rfl ⟨aH,rfl,hm.pk [0] rfl rfl⟩))))))))
theorem oz (w0:World) (r_:kM) (bp0:Nat) (v1p:Value) (h1p:GT.rep (hp w0) [v1p] r_.list) (hbbp0:(hp w0) bp0=some (.cells ([v1p,(.bool (r_.bad))]:List Value).toArray 54 (0,0))) :
    mE Tryz.prog 101 [(pV bp0)] w0 (lI r_) λr v w'=>v=(.agg #[nV r.kind,(tV r.text)])∧Below w0.heap.size w0 w':=by
  unfold lI
  refine mR func101 rfl λr=>?_
  have hm:=Mem.start w0
  refine gS (gR (gAl hm zeroValue47 rfl λaE w hm=>gE (gS (gS (gR (gM rfl (gY (yG rfl (kj rfl rfl)) (gF sM rfl (gY (yl isAgg36 (hm.hz_cell hbbp0 rfl) rfl) ?_)))))))))
  obtain ⟨aF,aG,rfl,aH⟩:=kT h1p
  refine gY (yV rU rfl) (gB rfl (gE (gsd 8 rfl (λaC=>?_) λaC=>?_)))
  ·exact gct rfl (gS (gR (gY (yG rfl (kr (vs:=[]) (cs:=#[nV 0,(tV (mkS []))]) rfl rfl (by kernel_rfl))) (gSN hm 0 sizeOf47 (kL rfl (kL rfl ke)) rfl λw hm=>gE (gRt (grc 0 results101 hm rfl isAgg47 sizeOf47 ⟨rfl,hm.below⟩))))))
  refine gcf rfl (gSk (gS (gR (gM rfl (gY (yG rfl (kj rfl rfl)) (gF sM rfl (gY (yl isAgg36 (hm.hz_cell hbbp0 rfl) rfl) (gg λaB aD aA=>?_))))))))
  obtain ⟨aI,aJ,aK,he⟩:=nb h1p aA
  obtain ⟨rfl,_,rfl⟩:=sl3 he
  exact gI rU aD (lO aA) rfl (gY (yn (lj (cs:=[nV aB.kind,(tV aB.text)]) (hm.now h1p) aA rfl) isAgg47 sizeOf47 rfl) (gSN hm 0 sizeOf47 (kL rfl (kL rfl ke)) rfl λw hm=>gE (gRt (grc 0 results101 hm rfl isAgg47 sizeOf47 ⟨rfl,hm.below⟩))))
theorem mV (w0:World) (hz:kX) (r_:kM) (bp0:Nat) (v1p:Value) (kind:Int) (text:Str) (hm0:Mem w0 hz w0 [blk bp0 [v1p,(.bool (r_.bad))] 54,ow [v1p] r_.list]) :
    mE Tryz.prog 63 [(pV bp0),nV kind,(tV text)] w0 (kV r_ kind text) λr v w'=>∃ (x1:Value),v=(.bool (r.1))∧Mem w0 hz w' [blk bp0 [x1,(.bool (r.2.bad))] 54,ow [x1] r.2.list]:=by
  unfold kV
  refine mR func63 rfl λr=>?_
  have hm:=hm0
  refine gS (gR (gA rfl (gE (gS (gS (gR (gM rfl (gC hm rfl call101 (oz _ r_ bp0 v1p (hm.ow_rep 1 rfl) (hm.blk_cells 0 rfl).1) λaF aM w hm=>gAl hm zeroValue47 rfl λaN w hm=>gSN hm 0 sizeOf47 (kL rfl (kL rfl ke)) rfl λw hm=>gE (gS (gJ hm (λaA=>[(0,(pV bp0)),(27,(.bool (aA)))]) (λaA=>[blk bp0 [v1p,(.bool (r_.bad))] 54,ow [v1p] r_.list]) (λaA=>?_) ?_))))))))))
  ·refine gR (gM rfl (gY (yG rfl (kj rfl rfl)) (gF sM rfl (gL hm 1 isAgg36 rfl ?_))))
   obtain ⟨aO,aP,rfl,aQ⟩:=kT (hm.ow_rep 2 rfl)
   refine gY (yV rU rfl) (gB rfl (gM rfl (gsd 16 rfl (λaG=>?_) λaG=>?_)))
   ·exact gO rfl (gO rfl (gO rfl (gO rfl (gKt rfl (gM rfl (gO rfl (gO rfl (gO rfl (gO rfl (gKt rfl (gE (gz hm [1,2] rfl))))))))))))
   refine gF sN rfl (gL hm 0 isAgg3 rfl (gM rfl (gB rfl (gKf rfl (gM rfl (gsd 22 rfl (λaH=>?_) λaH=>?_))))))
   ·exact gO rfl (gO rfl (gO rfl (gO rfl (gKt rfl (gE (gz hm [1,2] rfl))))))
   exact gF o8 rfl (gL hm 0 isAgg9 rfl (gM rfl (gY (yG rfl (vp (p:=aF.text) (q:=text) rfl rfl rfl)) (gKf rfl (gE (gz hm [1,2] rfl))))))
  repeat clear hm
  intro aA w hm
  refine gs 27 rfl (λaI=>?_) λaI=>?_
  ·exact gct rfl (gS (gR (gA rfl (gE (gRt (gr1 results63 rfl ⟨v1p,rfl,hm.pk [0,1] rfl rfl⟩))))))
  refine gcf rfl (gSk (gS (gR (gM rfl (gM rfl (gY (yG rfl (kj rfl rfl)) (gF sM rfl (gL hm 0 isAgg36 rfl (gb λaJ aK=>?_)))))))))
  obtain ⟨aC,aD⟩:=te.1 aK
  have aL:=(hm.ow_rep 1 rfl)
  obtain ⟨aE,aB⟩:∃ nv,nv=wK (GT.sz (kJ)) v1p (1:Int).toNat ((r_.list.length:Int):Int).toNat:=⟨_,rfl⟩
  refine gY (yG rfl (ar4 aB (bg4 (α:=kJ) rU aL rfl rfl rfl aC _))) (gY (yG rfl (kj rfl rfl)) (gF sM rfl (gS1 hm 0 sizeOf36 (ki (am8 aB aD aC (hm.ow_rep 1 rfl))) rfl λw hm=>gE (gS (gR (gA rfl (gE (gRt ?_))))))))
  replace hm:=hm.imp (c':=ow [aE] aJ) 1 rfl (λF h0=>by rw [aB,← aD];exact zp h0 (by omega) (by omega))
  exact gr1 results63 rfl ⟨aE,rfl,hm.pk [0,1] rfl rfl⟩
theorem lX (w0:World) (hz:kX) (r_:kM) (bp0:Nat) (v1p:Value) (kind:Int) (text:Str) (hm0:Mem w0 hz w0 [blk bp0 [v1p,(.bool (r_.bad))] 54,ow [v1p] r_.list]) :
    mE Tryz.prog 61 [(pV bp0),nV kind,(tV text)] w0 (kP r_ kind text) λr v w'=>∃ (x1:Value),v=(.tuple #[])∧Mem w0 hz w' [blk bp0 [x1,(.bool (r.bad))] 54,ow [x1] r.list]:=by
  unfold kP
  refine mR func61 rfl λr=>?_
  have hm:=hm0
  refine gS (gR (gM rfl (gM rfl (gM rfl ?_))))
  obtain ⟨aC,hle,hm1,hsub,aD⟩:=hm.take2 (L1:=[_,_]) (L2:=[]) [0,1] [] (by decide) rfl rfl
  refine gCg rfl call63 (mV _ aC r_ bp0 v1p kind text hm1 ) ?_
  rintro aE aG aH w ⟨aB,rfl,hB⟩
  replace hm:=aD _ _ hB;clear hB
  refine gN rfl (gE (gJ hm (λaA=>[]) (λaA=>[blk bp0 [aB,(.bool (aA))] 54,ow [aB] aE.2.list]) (λaA=>?_) ?_))
  ·refine gsn 10 rfl (λaF=>?_) λaF=>?_
   ·exact gct rfl (gR (gM rfl (gY (yG rfl (kj rfl rfl)) (gF qt rfl (gS1 hm 0 sizeOf4 rfl rfl λw hm=>gE (gz hm [0,1] rfl))))))
   exact gcf rfl (gSk (gz hm [0,1] rfl))
  repeat clear hm
  intro aA w hm
  exact gre results61 ⟨aB,rfl,hm.pk [0,1] rfl rfl⟩
theorem oD (w0:World) (hz:kX) (r_:kM) (bp0:Nat) (v1p:Value) (hm0:Mem w0 hz w0 [blk bp0 [v1p,(.bool (r_.bad))] 54,ow [v1p] r_.list]) :
    mE Tryz.prog 100 [(pV bp0)] w0 (ku r_) λr v w'=>∃ (x1:Value),v=(.agg #[nV r.1.kind,(tV r.1.text)])∧Mem w0 hz w' [blk bp0 [x1,(.bool (r.2.bad))] 54,ow [x1] r.2.list]:=by
  unfold ku
  refine mR func100 rfl λr=>?_
  have hm:=hm0
  refine gS (gR (gAl hm zeroValue47 rfl λaD w hm=>gE (gS (gR (gM rfl (gC hm rfl call101 (oz _ r_ bp0 v1p (hm.ow_rep 2 rfl) (hm.blk_cells 1 rfl).1) λaE aP w hm=>gAl hm zeroValue47 rfl λaF w hm=>gSN hm 0 sizeOf47 (kL rfl (kL rfl ke)) rfl λw hm=>gE (gS (gS (gR (gM rfl (gY (yG rfl (kj rfl rfl)) (gF sM rfl (gL hm 2 isAgg36 rfl ?_)))))))))))))
  obtain ⟨aG,aH,rfl,aQ⟩:=kT (hm.ow_rep 3 rfl)
  refine gY (yV rU rfl) (gB rfl (gE (gJg (λaA a w=>∃ (aB:Value),St 24 [(2,(pV aD)),(3,(pV aF))] w0 hz [blk aD [nV 0,(tV (mkS []))] 47,blk aF [nV aE.kind,(tV aE.text)] 47,blk bp0 [aB,(.bool (aA.2))] 54,ow [aB] aA.1] a w) (λaA=>?_) ?_)))
  ·refine gsd 11 rfl (λaL=>?_) λaL=>?_
   ·exact gct rfl (gR (gM rfl (gY (yG rfl (kj rfl rfl)) (gF qt rfl (gS1 hm 2 sizeOf4 rfl rfl λw hm=>gE (gZ λa hf=>⟨.slice aG r_.list.length aH,hf.sb rfl,hm.pk [1,0,2,3] rfl rfl⟩))))))
   refine gcf rfl (gR (gM rfl (gM rfl (gY (yG rfl (kj rfl rfl)) (gF sM rfl (gL hm 2 isAgg36 rfl (gb λaM aN=>?_)))))))
   obtain ⟨aI,aJ⟩:=te.1 aN
   have aO:=(hm.ow_rep 3 rfl)
   obtain ⟨aK,aC⟩:∃ nv,nv=wK (GT.sz (kJ)) (.slice aG r_.list.length aH) (1:Int).toNat ((r_.list.length:Int):Int).toNat:=⟨_,rfl⟩
   refine gY (yG rfl (ar4 aC (bg4 (α:=kJ) rU aO rfl rfl rfl aI _))) (gY (yG rfl (kj rfl rfl)) (gF sM rfl (gS1 hm 2 sizeOf36 (ki (am8 aC aJ aI (hm.ow_rep 3 rfl))) rfl λw hm=>gE ?_)))
   replace hm:=hm.imp (c':=ow [aK] aM) 3 rfl (λF h0=>by rw [aC,← aJ];exact zp h0 (by omega) (by omega))
   exact gZ λa hf=>⟨aK,hf.sb rfl,hm.pk [1,0,2,3] rfl rfl⟩
  repeat clear hm
  rintro aA a w ⟨aB,hf,hm⟩
  exact gv hf (gS (gR (gY (yn (hm.blk_at 1 rfl) isAgg47 sizeOf47 rfl) (gSN hm 0 sizeOf47 (kL rfl (kL rfl ke)) rfl λw hm=>gE (gRt (grc 0 results100 hm rfl isAgg47 sizeOf47 ⟨aB,rfl,hm.pk [2,3] rfl rfl⟩))))))
theorem pA (w0:World) (hz:kX) (r_:kM) (bp0:Nat) (v1p:Value) (hm0:Mem w0 hz w0 [blk bp0 [v1p,(.bool (r_.bad))] 54,ow [v1p] r_.list]) :
    mE Tryz.prog 62 [(pV bp0)] w0 (kv r_) λr v w'=>∃ (x1:Value),v=(tV r.1)∧Mem w0 hz w' [blk bp0 [x1,(.bool (r.2.bad))] 54,ow [x1] r.2.list]:=by
  unfold kv
  refine mR func62 rfl λr=>?_
  have hm:=hm0
  refine gS (gR (gA rfl (gE (gS (gR (gM rfl ?_))))))
  obtain ⟨aE,hle,hm1,hsub,aF⟩:=hm.take2 (L1:=[_,_]) (L2:=[]) [0,1] [] (by decide) rfl rfl
  refine gCg rfl call100 (oD _ aE r_ bp0 v1p hm1 ) ?_
  rintro aB aH aI w ⟨aC,rfl,hB⟩
  replace hm:=aF _ _ hB;clear hB
  refine gAl hm zeroValue47 rfl λaD w hm=>gSN hm 0 sizeOf47 (kL rfl (kL rfl ke)) rfl λw hm=>gE (gS (gS (gR (gF sN rfl (gL hm 0 isAgg3 rfl (gB rfl (gE (gJ hm (λaA=>[(3,(pV aD))]) (λaA=>[blk aD [nV aB.1.kind,(tV aB.1.text)] 47,blk bp0 [aC,(.bool (aA))] 54,ow [aC] aB.2.list]) (λaA=>?_) ?_))))))))
  ·refine gsd 8 rfl (λaG=>?_) λaG=>?_
   ·exact gct rfl (gR (gM rfl (gY (yG rfl (kj rfl rfl)) (gF qt rfl (gS1 hm 1 sizeOf4 rfl rfl λw hm=>gE (gz hm [0,1,2] rfl))))))
   exact gcf rfl (gSk (gz hm [0,1,2] rfl))
  repeat clear hm
  intro aA w hm
  exact gS (gR (gF o8 rfl (gL hm 0 isAgg9 rfl (gA rfl (gE (gRt (gr1 results62 rfl ⟨aC,rfl,hm.pk [1,2] rfl rfl⟩)))))))
theorem xo (w0:World) (w_:kJ) :
    mE Tryz.prog 159 [(.agg #[nV w_.kind,(tV w_.text)])] w0 (qq w_) λr v w'=>v=(nV r)∧Below w0.heap.size w0 w':=by
  unfold qq
  refine mR func159 rfl λr=>?_
  have hm:=Mem.start w0
  refine gS (gR (gBx hm rfl λaB w hm=>gA rfl (gE (gS (gS (gR (gF sN rfl (gL hm 0 isAgg3 rfl (gB rfl (gE (gsd 5 rfl (λaA=>?_) λaA=>?_)))))))))))
  ·exact gct rfl (gS (gR (gA rfl (gE (gRt (gr1 results159 rfl ⟨rfl,hm.below⟩))))))
  exact gcf rfl (gSk (gS (gR (gF o8 rfl (gL hm 0 isAgg9 rfl (gC hm rfl call88 (uc _ w_.text 255) λaC aD w hm=>gA rfl (gE (gRt (gr1 results159 rfl ⟨rfl,hm.below⟩)))))))))
theorem sX  : (∀ (r_:kM) (level:Int) (r:kK × kM),kQ r_ level=some r→∀ (w0:World) (hz:kX) (bp0:Nat) (v1p:Value) (hm0:Mem w0 hz w0 [blk bp0 [v1p,(.bool (r_.bad))] 54,ow [v1p] r_.list]) (hG1:GT.rep hz [.slice (some ⟨1,0,none⟩) 1 1] [kO]),Con Tryz.prog 126 [(pV bp0),nV level] w0 (λv w'=>∃ (x1:Value) (x2:Value),v=(.agg #[nV r.1.op,nV r.1.n_,(tV r.1.name),x1])∧Mem w0 hz w' [blk bp0 [x2,(.bool (r.2.bad))] 54,ow [x1] r.1.kids,ow [x2] r.2.list])) ∧
    (∀ (r_:kM) (r:kK × kM),lC r_=some r→∀ (w0:World) (hz:kX) (bp0:Nat) (v1p:Value) (hm0:Mem w0 hz w0 [blk bp0 [v1p,(.bool (r_.bad))] 54,ow [v1p] r_.list]) (hG1:GT.rep hz [.slice (some ⟨1,0,none⟩) 1 1] [kO]),Con Tryz.prog 141 [(pV bp0)] w0 (λv w'=>∃ (x1:Value) (x2:Value),v=(.agg #[nV r.1.op,nV r.1.n_,(tV r.1.name),x1])∧Mem w0 hz w' [blk bp0 [x2,(.bool (r.2.bad))] 54,ow [x1] r.1.kids,ow [x2] r.2.list])):=by
  refine kQ.mutual_partial_correctness  (motive_1:=λr_ level r=>∀ (w0:World) (hz:kX) (bp0:Nat) (v1p:Value) (hm0:Mem w0 hz w0 [blk bp0 [v1p,(.bool (r_.bad))] 54,ow [v1p] r_.list]) (hG1:GT.rep hz [.slice (some ⟨1,0,none⟩) 1 1] [kO]),Con Tryz.prog 126 [(pV bp0),nV level] w0 (λv w'=>∃ (x1:Value) (x2:Value),v=(.agg #[nV r.1.op,nV r.1.n_,(tV r.1.name),x1])∧Mem w0 hz w' [blk bp0 [x2,(.bool (r.2.bad))] 54,ow [x1] r.1.kids,ow [x2] r.2.list])) (motive_2:=λr_ r=>∀ (w0:World) (hz:kX) (bp0:Nat) (v1p:Value) (hm0:Mem w0 hz w0 [blk bp0 [v1p,(.bool (r_.bad))] 54,ow [v1p] r_.list]) (hG1:GT.rep hz [.slice (some ⟨1,0,none⟩) 1 1] [kO]),Con Tryz.prog 141 [(pV bp0)] w0 (λv w'=>∃ (x1:Value) (x2:Value),v=(.agg #[nV r.1.op,nV r.1.n_,(tV r.1.name),x1])∧Mem w0 hz w' [blk bp0 [x2,(.bool (r.2.bad))] 54,ow [x1] r.1.kids,ow [x2] r.2.list])) ?_ ?_
  · intro rec_1 rec_2 ih_1 ih_2 r_ level r hq w0 hz bp0 v1p hm0 hG1
    have pimpl_wordReader__expr_rec:∀ (w0:World) (hz:kX) (r_:kM) (bp0:Nat) (v1p:Value) (level:Int) (hm0:Mem w0 hz w0 [blk bp0 [v1p,(.bool (r_.bad))] 54,ow [v1p] r_.list]) (hG1:GT.rep hz [.slice (some ⟨1,0,none⟩) 1 1] [kO]) (r:kK × kM) (hq:rec_1 r_ level=some r),Con Tryz.prog 126 [(pV bp0),nV level] w0 (λv w'=>∃ (x1:Value) (x2:Value),v=(.agg #[nV r.1.op,nV r.1.n_,(tV r.1.name),x1])∧Mem w0 hz w' [blk bp0 [x2,(.bool (r.2.bad))] 54,ow [x1] r.1.kids,ow [x2] r.2.list]):=λw0 hz r_ bp0 v1p level hm0 hG1 r hq=>ih_1 r_ level r hq w0 hz bp0 v1p hm0 hG1
    have pimpl_wordReader__single_rec:∀ (w0:World) (hz:kX) (r_:kM) (bp0:Nat) (v1p:Value) (hm0:Mem w0 hz w0 [blk bp0 [v1p,(.bool (r_.bad))] 54,ow [v1p] r_.list]) (hG1:GT.rep hz [.slice (some ⟨1,0,none⟩) 1 1] [kO]) (r:kK × kM) (hq:rec_2 r_=some r),Con Tryz.prog 141 [(pV bp0)] w0 (λv w'=>∃ (x1:Value) (x2:Value),v=(.agg #[nV r.1.op,nV r.1.n_,(tV r.1.name),x1])∧Mem w0 hz w' [blk bp0 [x2,(.bool (r.2.bad))] 54,ow [x1] r.1.kids,ow [x2] r.2.list]):=λw0 hz r_ bp0 v1p hm0 hG1 r hq=>ih_2 r_ r hq w0 hz bp0 v1p hm0 hG1
    refine pO (ρ:=kK × kM) (R:=λr v w'=>∃ (x1:Value) (x2:Value),v=(.agg #[nV r.1.op,nV r.1.n_,(tV r.1.name),x1])∧Mem w0 hz w' [blk bp0 [x2,(.bool (r.2.bad))] 54,ow [x1] r.1.kids,ow [x2] r.2.list]) func126 rfl hq ?_
    have hm:=hm0
    refine gS (gR (gAl hm zeroValue80 rfl λaC w hm=>gE (gS (gS (gR (gM rfl (gB rfl (gE (gsd 10 rfl (λax=>?_) λax=>?_)))))))))
    ·refine gct rfl (gS (gR (gM rfl ?_)))
     obtain ⟨ay,hle,hm1,hsub,az⟩:=hm.take2 (L1:=[_,_]) (L2:=[_]) [1,2] [0] (by decide) rfl rfl
     refine gCg rfl call141 (pimpl_wordReader__single_rec _ ay r_ bp0 v1p hm1 (GT.mono hle hG1)) ?_
     rintro aD ba bb w ⟨aN,bS,rfl,hB⟩
     replace hm:=az _ _ hB;clear hB
     exact gSN hm 3 sizeOf80 (kL rfl (kL rfl (kL rfl (kL (ki (hm.ow_rep 1 rfl)) ke)))) rfl λw hm=>gE (gRt (grc 3 results126 hm rfl isAgg80 sizeOf80 ⟨aN,bS,rfl,hm.pk [0,1,2] rfl rfl⟩))
    refine gcf rfl (gSk (gS (gR (gM rfl (gM rfl (gB rfl ?_))))))
    obtain ⟨bA,hle,hm1,hsub,bB⟩:=hm.take2 (L1:=[_,_]) (L2:=[_]) [1,2] [0] (by decide) rfl rfl
    refine gCg rfl call126 (pimpl_wordReader__expr_rec _ bA r_ bp0 v1p (w64 (level+1)) hm1 (GT.mono hle hG1)) ?_
    rintro bC bT bc w ⟨aa,aj,rfl,hB⟩
    replace hm:=bB _ _ hB;clear hB
    refine gAl hm zeroValue80 rfl λaG w hm=>gSN hm 0 sizeOf80 (kL rfl (kL rfl (kL rfl (kL (ki (hm.ow_rep 2 rfl)) ke)))) rfl λw hm=>gE (gS ?_)
    obtain ⟨bD,bE,rfl,bd⟩:=kT (hm.ow_rep 3 rfl)
    obtain ⟨be,bf,rfl,cW⟩:=kT (hm.ow_rep 2 rfl)
    refine tX (λaO a w=>∃ (ab ac:Value),St 56 [(4,(pV aC)),(5,(pV aG))] w0 hz [blk aC [nV 0,nV 0,(tV (mkS [])),.slice none 0 0] 80,blk aG [nV aO.1,nV aO.2.1,(tV aO.2.2.1),ab] 80,ow [ab] aO.2.2.2.1,blk bp0 [ac,(.bool (aO.2.2.2.2.2))] 54,ow [ac] aO.2.2.2.2.1] a w) (λcX bg=>?_) ?_
    ·refine gBk (gMg (λaA a w=>∃ (aS aQ:Value),St 56 [(0,(pV bp0)),(1,(nV level)),(4,(pV aC)),(5,(pV aG))] w0 hz [blk bp0 [aS,(.bool (aA.2.1))] 54,ow [aS] aA.1,blk aC [nV 0,nV 0,(tV (mkS [])),.slice none 0 0] 80,blk aG [nV aA.2.2.1,nV aA.2.2.2.1,(tV aA.2.2.2.2.1),aQ] 80,ow [aQ] aA.2.2.2.2.2] a w) (λa hf=>⟨.slice bD bC.2.list.length bE,.slice be bC.1.kids.length bf,hf.sb rfl,hm.pk [1,3,4,0,2] rfl rfl⟩) ?_)
     repeat clear hm
     rintro bh ak aA a w ⟨aS,aQ,hf,hm⟩ bi al
     refine gv hf (gS (gS (gR (gM rfl (gY (yG rfl (kj rfl rfl)) (gF qt rfl (gL hm 0 isAgg4 rfl (gN rfl (gE (gsn 21 rfl (λbF=>?_) λbF=>?_))))))))))
     ·refine gct rfl (gSk (gBk (gS (gR (gA rfl (gE (gS (gS (gR ?_)))))))))
      obtain ⟨aR,bj,bU⟩:=tZ hG1 rfl
      refine gY (yl isAgg147 ((lq.mono hm.lez (bj)).cell (j:=0) rfl) rfl) (gf rfl (λa hf=>bh2 (m:=(kO:ni k9)) hf hm underlying147 bU rfl rfl) ?_)
      rintro _ w ⟨aT,rfl,hm⟩
      refine gE ?_
      obtain ⟨aH,aI,rfl,bk⟩:=kT (hm.ow_rep 2 rfl)
      obtain ⟨aE,aF,rfl,cY⟩:=kT (hm.ow_rep 5 rfl)
      refine gJ hm (λaK=>[(0,(pV bp0)),(1,(nV level)),(4,(pV aC)),(5,(pV aG)),(6,(nV aK))]) (λaK=>[blk bp0 [.slice aH aA.1.length aI,(.bool (aA.2.1))] 54,ow [.slice aH aA.1.length aI] aA.1,blk aC [nV 0,nV 0,(tV (mkS [])),.slice none 0 0] 80,blk aG [nV aA.2.2.1,nV aA.2.2.2.1,(tV aA.2.2.2.2.1),.slice aE aA.2.2.2.2.2.length aF] 80,ow [.slice aE aA.2.2.2.2.2.length aF] aA.2.2.2.2.2]) (λaK=>?_) ?_
      ·refine gBk (ca0 (m:=(kO:ni k9)) bU (λae bG a w=>St 56 [(0,(pV bp0)),(1,(nV level)),(4,(pV aC)),(5,(pV aG)),(6,(nV bG)),(23,(pV aT))] w0 hz [blk bp0 [.slice aH aA.1.length aI,(.bool (aA.2.1))] 54,ow [.slice aH aA.1.length aI] aA.1,blk aC [nV 0,nV 0,(tV (mkS [])),.slice none 0 0] 80,blk aG [nV aA.2.2.1,nV aA.2.2.2.1,(tV aA.2.2.2.2.1),.slice aE aA.2.2.2.2.2.length aF] 80,ow [.slice aE aA.2.2.2.2.2.length aF] aA.2.2.2.2.2,itc hz aR aT ae] a w) (λa hf=>⟨hf.sb rfl,hm.pk [1,2,3,4,5,0] rfl rfl⟩) ?_ ?_)
       ·repeat clear hm
        rintro ae bG a w ⟨hf,hm⟩ hmo
        refine gv (m:=some ()) (r:=()) hf ?_ rfl
        refine gS (gR (gf rfl (λa hf=>bp5 5 hf hm rfl hmo rfl rfl) ?_))
        rintro _ w ⟨bH,bV,cZ,rfl,bW,bX,hm⟩
        refine gSw bW (gX rfl (gE (gS (gct rfl (gSk (gJ hm (λam=>[(0,(pV bp0)),(1,(nV level)),(4,(pV aC)),(5,(pV aG)),(6,(nV am)),(23,(pV aT))]) (λam=>[blk bp0 [.slice aH aA.1.length aI,(.bool (aA.2.1))] 54,ow [.slice aH aA.1.length aI] aA.1,blk aC [nV 0,nV 0,(tV (mkS [])),.slice none 0 0] 80,blk aG [nV aA.2.2.1,nV aA.2.2.2.1,(tV aA.2.2.2.2.1),.slice aE aA.2.2.2.2.2.length aF] 80,ow [.slice aE aA.2.2.2.2.2.length aF] aA.2.2.2.2.2,itc hz aR aT (Array.push ae bH)]) (λam=>?_) ?_))))))
        ·refine gBk (gS (gR (gY (yG rfl (bh8 5 hm rfl bX rfl rfl)) (gX rfl (gX rfl (gAl hm zeroValue146 rfl λc8 w hm=>gA rfl (gSN hm 0 sizeOf146 (kL rfl (kL rfl ke)) rfl λw hm=>gE (gS (gJ hm (λan=>[(0,(pV bp0)),(1,(nV level)),(4,(pV aC)),(5,(pV aG)),(6,(nV bG)),(7,(nV bV.1)),(23,(pV aT)),(40,(.bool (an)))]) (λan=>[blk bp0 [.slice aH aA.1.length aI,(.bool (aA.2.1))] 54,ow [.slice aH aA.1.length aI] aA.1,blk aC [nV 0,nV 0,(tV (mkS [])),.slice none 0 0] 80,blk aG [nV aA.2.2.1,nV aA.2.2.2.1,(tV aA.2.2.2.2.1),.slice aE aA.2.2.2.2.2.length aF] 80,ow [.slice aE aA.2.2.2.2.2.length aF] aA.2.2.2.2.2,itc hz aR aT (Array.push ae bH)]) (λan=>?_) ?_)))))))))
         ·refine gW (.p 0 (.p 2 (.e 1 (.p 3 (.p 4 (.p 5 (.p 7 (.q 8 (.e 6 (.e 9 (.p 10 (.p 11 .fin)) .nil) .nil)))))) .nil))) [6] [0, 2, 3, 4, 5, 7, 10, 11] hm [0, 1, 2, 3, 4, 5, 6] [_, _, _, _, _, _, _] rfl mxo (by kernel_rfl) (fun _ _ _ h => h.2) fun w hm hS => tP rfl (fun w => yF bh7 rfl) (tP rfl (fun w => yM rfl) (tO (tY rfl (yL hm 0 isAgg3 rfl) (tAn rfl (tP rfl (fun w => yB rfl) (tP rfl (fun w => yM rfl) (gsd 33 rfl (fun bl => ?_) fun bl => ?_)))))))
          ·refine tP rfl (λw=>yM rfl) (tP rfl (λw=>yF bb1 rfl) (tQ rfl hS (λw hm=>yL hm 0 isAgg9 rfl) (tO (gb λc9 bm=>tf rfl rfl (λa hf=>lK hf rfl call101 rfl (oz _ (⟨aA.1,aA.2.1⟩:kM) bp0 (.slice aH aA.1.length aI) (hm.ow_rep 2 rfl) (hm.blk_cells 1 rfl).1 _ bm)) ?_))))
           rintro ca w ⟨rfl,hB⟩
           replace hm:=hm.below' hB;clear hB
           refine tAk hm [0,1,2,3,4,5,6] rfl λhS=>tO (gb λcb bo=>tf rfl rfl (λa hf=>lK hf rfl call20 rfl (lM _ bV.2.sign _ bo)) ?_)
           rintro cc w ⟨rfl,hB⟩
           replace hm:=hm.below' hB;clear hB
           exact tAn rfl (tP rfl (λw=>yG rfl (af0 underlying47 (by kernel_rfl) (by kernel_rfl) (by decide) rfl rfl isAgg3 isAgg9 underlying3 underlying9 rfl rfl rfl)) (tP rfl (λw=>yKt rfl) (tE (gz hm [1,2,3,4,5,6] rfl))))
          exact tPo rfl rfl (tPo rfl rfl (tQo rfl hS rfl (tO (tEo rfl rfl (tAs hS (tO (tEo rfl rfl (tAn rfl (tPo rfl rfl (tP rfl (λw=>yKf rfl) (tE (gz hm [1,2,3,4,5,6] rfl))))))))))))
         repeat clear hm
         intro an w hm
         refine gJ hm (λao=>[(0,(pV bp0)),(1,(nV level)),(4,(pV aC)),(5,(pV aG)),(6,(nV ao)),(23,(pV aT))]) (λao=>[blk bp0 [.slice aH aA.1.length aI,(.bool (aA.2.1))] 54,ow [.slice aH aA.1.length aI] aA.1,blk aC [nV 0,nV 0,(tV (mkS [])),.slice none 0 0] 80,blk aG [nV aA.2.2.1,nV aA.2.2.2.1,(tV aA.2.2.2.2.1),.slice aE aA.2.2.2.2.2.length aF] 80,ow [.slice aE aA.2.2.2.2.2.length aF] aA.2.2.2.2.2,itc hz aR aT (Array.push ae bH)]) (λao=>?_) ?_
         ·refine gs 40 rfl (λbp=>?_) λbp=>?_
          ·exact gct rfl (gR (gM rfl (gA rfl (gE (gz hm [0,1,2,3,4,5] rfl)))))
          exact gcf rfl (gSk (gz hm [0,1,2,3,4,5] rfl))
         repeat clear hm
         intro ao w hm
         exact gz hm [0,1,2,3,4,5] rfl
        repeat clear hm
        intro am w hm
        exact gZr bX bW λa hf=>⟨hf.sb rfl,hm.pk [0,1,2,3,4,5] rfl rfl⟩
       repeat clear hm
       rintro cd ce a w ⟨hf,hm⟩ hno hk
       refine gv hf ?_ hk
       exact gS (gR (gY (yG rfl (bq4 5 hm rfl hno rfl rfl)) (gX rfl (gE (gS (gcf rfl (gXt (gHh (gz hm [0,1,2,3,4] rfl)))))))))
      repeat clear hm
      intro aK w hm
      refine gS (gS (gR (gM rfl (gB rfl (gE (gsd 43 rfl (λbJ=>?_) λbJ=>?_))))))
      ·exact gct rfl (gS (gR (gY (yn (hm.blk_at 3 rfl) isAgg80 sizeOf80 rfl) (gSN hm 2 sizeOf80 (kL rfl (kL rfl (kL rfl (kL rfl ke)))) rfl λw hm=>gE (gRt (gLp al ak (gl (gEr bg (grc 2 results126 hm rfl isAgg80 sizeOf80 ⟨.slice aE aA.2.2.2.2.2.length aF,.slice aH aA.1.length aI,rfl,hm.pk [0,4,1] rfl rfl⟩)))))))))
      refine gcf rfl (gSk (gS (gR (gM rfl ?_))))
      obtain ⟨bK,hle,hm1,hsub,bL⟩:=hm.take2 (L1:=[_,_]) (L2:=[_,_,_]) [0,1] [2,3,4] (by decide) rfl rfl
      refine gCg rfl call100 (oD _ bK (⟨aA.1,aA.2.1⟩:kM) bp0 (.slice aH aA.1.length aI) hm1 ) ?_
      rintro aJ bY af w ⟨bM,rfl,hB⟩
      replace hm:=bL _ _ hB;clear hB
      refine gE (gJg (λaP a w=>∃ (aV aX:Value),St 56 [(0,(pV bp0)),(1,(nV level)),(4,(pV aC)),(5,(pV aG))] w0 hz [blk bp0 [aV,(.bool (aP.2.1))] 54,ow [aV] aP.1,blk aC [nV 0,nV 0,(tV (mkS [])),.slice none 0 0] 80,blk aG [nV aK,nV 0,(tV (mkS [])),aX] 80,ow [aX] aP.2.2] a w) (λaP=>?_) ?_)
      ·refine gW (.p 0 (.p 2 (.p 3 (.p 4 (.e 1 (.e 5 (.e 6 (.p 7 (.e 8 .fin .nil)) .nil) .nil) (.e 5 (.e 1 (.e 6 (.p 7 (.e 8 .fin .nil)) .nil) .nil) .nil)))))) [] [0, 2, 3, 4, 7] hm [0, 1, 2, 3, 4] [_, _, _, _, _] rfl mxo (by kernel_rfl) (fun _ _ _ h => h.2) fun w hm hS => tP rfl (fun w => yM rfl) (tP rfl (fun w => yM rfl) (tP rfl (fun w => yM rfl) (tP rfl (fun w => yB rfl) (gb fun aB bZ => tMo ?_ ?_))))
       ·refine tY rfl (yn (hm.blk_at 3 rfl) isAgg80 sizeOf80 rfl) (tAn rfl (tO ?_))
        obtain ⟨bN,hle,hm1,hsub,bO⟩:=hm.take2 (L1:=[_,_]) (L2:=[_,_,_]) [0,1] [2,3,4] (by decide) rfl rfl
        refine tf rfl rfl (λa hf=>lK hf rfl call126 rfl (pimpl_wordReader__expr_rec _ bN aJ.2 bp0 bM (w64 (level+1)) hm1 (GT.mono hle hG1) _ bZ)) ?_
        rintro bq w ⟨aY,aZ,rfl,hB⟩
        replace hm:=bO _ _ hB;clear hB
        refine tAn rfl (tO (tf rfl rfl (λa hf=>kS (vs:=#[(0,(.agg #[nV aA.2.2.1,nV aA.2.2.2.1,(tV aA.2.2.2.2.1),.slice aE aA.2.2.2.2.2.length aF])),(1,(.agg #[nV aB.1.op,nV aB.1.n_,(tV aB.1.name),aY]))]) (cs:=[nV aA.2.2.1,nV aA.2.2.2.1,(tV aA.2.2.2.2.1),.slice aE aA.2.2.2.2.2.length aF,nV aB.1.op,nV aB.1.n_,(tV aB.1.name),aY]) na hf hm rfl rfl (by kernel_rfl) rfl rfl) ?_))
        rintro _ w ⟨ag,rfl,hm⟩
        replace hm:=hm.els_nil (α:=kK)
        replace hm:Mem w0 hz _ [els [] ([]:List kK),blk ag [nV aA.2.2.1,nV aA.2.2.2.1,(tV aA.2.2.2.2.1),.slice aE aA.2.2.2.2.2.length aF,nV aB.1.op,nV aB.1.n_,(tV aB.1.name),aY] 80,blk bp0 [aZ,(.bool (aB.2.bad))] 54,ow [nV aB.1.op,nV aB.1.n_,(tV aB.1.name),aY] (aB.1:kK),ow [aZ] aB.2.list,blk aC [nV 0,nV 0,(tV (mkS [])),.slice none 0 0] 80,blk aG [nV aA.2.2.1,nV aA.2.2.2.1,(tV aA.2.2.2.2.1),.slice aE aA.2.2.2.2.2.length aF] 80,ow [.slice aE aA.2.2.2.2.2.length aF] aA.2.2.2.2.2]:=ly aB.1 hm 3 rfl
        replace hm:=(hm.els_cons 0 3 (by decide) rfl rfl).pk (L':=[_,_,_,_,_,_,_]) [0,1,2,4,5,6,7] rfl rfl
        replace hm:Mem w0 hz _ [els [nV aB.1.op,nV aB.1.n_,(tV aB.1.name),aY] ([aB.1]:List kK),blk ag [nV aA.2.2.1,nV aA.2.2.2.1,(tV aA.2.2.2.2.1),.slice aE aA.2.2.2.2.2.length aF,nV aB.1.op,nV aB.1.n_,(tV aB.1.name),aY] 80,blk bp0 [aZ,(.bool (aB.2.bad))] 54,ow [aZ] aB.2.list,blk aC [nV 0,nV 0,(tV (mkS [])),.slice none 0 0] 80,blk aG [nV aA.2.2.1,nV aA.2.2.2.1,(tV aA.2.2.2.2.1),.slice aE aA.2.2.2.2.2.length aF] 80,ow [nV aA.2.2.1,nV aA.2.2.2.1,(tV aA.2.2.2.2.1),.slice aE aA.2.2.2.2.2.length aF] ((⟨aA.2.2.1,aA.2.2.2.1,aA.2.2.2.2.1,aA.2.2.2.2.2⟩:kK):kK)]:=oY aA.2.2.1 aA.2.2.2.1 aA.2.2.2.2.1 hm 6 rfl
        replace hm:=(hm.els_cons 0 6 (by decide) rfl rfl).pk (L':=[_,_,_,_,_,_]) [0,1,2,3,4,5] rfl rfl
        replace hm:=(hm.lit_els 1 0 (by decide) rfl rfl rfl rfl).pk (L':=[_,_,_,_,_]) [1,2,3,4,5] rfl rfl
        refine tAn rfl (tP rfl (λw=>yG rfl (kr (vs:=[(0,(nV aK)),(3,(sV ag 0 2 2))]) (cs:=#[nV aK,nV 0,(tV (mkS [])),sV ag 0 2 2]) rfl rfl (by kernel_rfl))) (tO (tf0 rfl rfl (λa hf=>nH 4 hf hm rfl sizeOf80 rfl rfl rfl (kL rfl (kL rfl (kL rfl (kL rfl ke)))) rfl rfl) ?_)))
        rintro _ w hm
        exact tAn rfl (tE (gZ λa hf=>⟨aZ,sV ag 0 2 2,hf.sb rfl,hm.pk [1,2,3,4,0] rfl rfl⟩))
       refine tO ?_
       obtain ⟨bP,hle,hm1,hsub,bQ⟩:=hm.take2 (L1:=[_,_]) (L2:=[_,_,_]) [0,1] [2,3,4] (by decide) rfl rfl
       refine tf rfl rfl (λa hf=>lK hf rfl call126 rfl (pimpl_wordReader__expr_rec _ bP aJ.2 bp0 bM (w64 (level+1)) hm1 (GT.mono hle hG1) _ bZ)) ?_
       rintro b8 w ⟨a8,ah,rfl,hB⟩
       replace hm:=bQ _ _ hB;clear hB
       refine tAn rfl (tO (tY rfl (yn (hm.blk_at 4 rfl) isAgg80 sizeOf80 rfl) (tAn rfl (tO (tf rfl rfl (λa hf=>kS (vs:=#[(0,(.agg #[nV aA.2.2.1,nV aA.2.2.2.1,(tV aA.2.2.2.2.1),.slice aE aA.2.2.2.2.2.length aF])),(1,(.agg #[nV aB.1.op,nV aB.1.n_,(tV aB.1.name),a8]))]) (cs:=[nV aA.2.2.1,nV aA.2.2.2.1,(tV aA.2.2.2.2.1),.slice aE aA.2.2.2.2.2.length aF,nV aB.1.op,nV aB.1.n_,(tV aB.1.name),a8]) na hf hm rfl rfl (by kernel_rfl) rfl rfl) ?_)))))
       rintro _ w ⟨ai,rfl,hm⟩
       replace hm:=hm.els_nil (α:=kK)
       replace hm:Mem w0 hz _ [els [] ([]:List kK),blk ai [nV aA.2.2.1,nV aA.2.2.2.1,(tV aA.2.2.2.2.1),.slice aE aA.2.2.2.2.2.length aF,nV aB.1.op,nV aB.1.n_,(tV aB.1.name),a8] 80,blk bp0 [ah,(.bool (aB.2.bad))] 54,ow [nV aB.1.op,nV aB.1.n_,(tV aB.1.name),a8] (aB.1:kK),ow [ah] aB.2.list,blk aC [nV 0,nV 0,(tV (mkS [])),.slice none 0 0] 80,blk aG [nV aA.2.2.1,nV aA.2.2.2.1,(tV aA.2.2.2.2.1),.slice aE aA.2.2.2.2.2.length aF] 80,ow [.slice aE aA.2.2.2.2.2.length aF] aA.2.2.2.2.2]:=ly aB.1 hm 3 rfl
       replace hm:=(hm.els_cons 0 3 (by decide) rfl rfl).pk (L':=[_,_,_,_,_,_,_]) [0,1,2,4,5,6,7] rfl rfl
       replace hm:Mem w0 hz _ [els [nV aB.1.op,nV aB.1.n_,(tV aB.1.name),a8] ([aB.1]:List kK),blk ai [nV aA.2.2.1,nV aA.2.2.2.1,(tV aA.2.2.2.2.1),.slice aE aA.2.2.2.2.2.length aF,nV aB.1.op,nV aB.1.n_,(tV aB.1.name),a8] 80,blk bp0 [ah,(.bool (aB.2.bad))] 54,ow [ah] aB.2.list,blk aC [nV 0,nV 0,(tV (mkS [])),.slice none 0 0] 80,blk aG [nV aA.2.2.1,nV aA.2.2.2.1,(tV aA.2.2.2.2.1),.slice aE aA.2.2.2.2.2.length aF] 80,ow [nV aA.2.2.1,nV aA.2.2.2.1,(tV aA.2.2.2.2.1),.slice aE aA.2.2.2.2.2.length aF] ((⟨aA.2.2.1,aA.2.2.2.1,aA.2.2.2.2.1,aA.2.2.2.2.2⟩:kK):kK)]:=oY aA.2.2.1 aA.2.2.2.1 aA.2.2.2.2.1 hm 6 rfl
       replace hm:=(hm.els_cons 0 6 (by decide) rfl rfl).pk (L':=[_,_,_,_,_,_]) [0,1,2,3,4,5] rfl rfl
       replace hm:=(hm.lit_els 1 0 (by decide) rfl rfl rfl rfl).pk (L':=[_,_,_,_,_]) [1,2,3,4,5] rfl rfl
       refine tAn rfl (tP rfl (λw=>yG rfl (kr (vs:=[(0,(nV aK)),(3,(sV ai 0 2 2))]) (cs:=#[nV aK,nV 0,(tV (mkS [])),sV ai 0 2 2]) rfl rfl (by kernel_rfl))) (tO (tf0 rfl rfl (λa hf=>nH 4 hf hm rfl sizeOf80 rfl rfl rfl (kL rfl (kL rfl (kL rfl (kL rfl ke)))) rfl rfl) ?_)))
       rintro _ w hm
       exact tAn rfl (tE (gZ λa hf=>⟨ah,sV ai 0 2 2,hf.sb rfl,hm.pk [1,2,3,4,0] rfl rfl⟩))
      repeat clear hm
      rintro aP a w ⟨aV,aX,hf,hm⟩
      exact gv hf (gZe λa hf=>⟨aV,aX,hf.sb rfl,hm.pk [0,1,2,3,4] rfl rfl⟩)
     exact gcf rfl (gXt (gHh (gLp al ak (gr (gZe λa hf=>⟨aQ,aS,hf.sb rfl,hm.pk [2,3,4,0,1] rfl rfl⟩)))))
    repeat clear hm
    rintro aO a w ⟨ab,ac,hf,hm⟩
    exact gv hf (gS (gR (gY (yn (hm.blk_at 1 rfl) isAgg80 sizeOf80 rfl) (gSN hm 0 sizeOf80 (kL rfl (kL rfl (kL rfl (kL (ki (hm.ow_rep 2 rfl)) ke)))) rfl λw hm=>gE (gRt (grc 0 results126 hm rfl isAgg80 sizeOf80 ⟨ab,ac,rfl,hm.pk [3,2,4] rfl rfl⟩))))))
  · intro rec_1 rec_2 ih_1 ih_2 r_ r hq w0 hz bp0 v1p hm0 hG1
    have pimpl_wordReader__expr_rec:∀ (w0:World) (hz:kX) (r_:kM) (bp0:Nat) (v1p:Value) (level:Int) (hm0:Mem w0 hz w0 [blk bp0 [v1p,(.bool (r_.bad))] 54,ow [v1p] r_.list]) (hG1:GT.rep hz [.slice (some ⟨1,0,none⟩) 1 1] [kO]) (r:kK × kM) (hq:rec_1 r_ level=some r),Con Tryz.prog 126 [(pV bp0),nV level] w0 (λv w'=>∃ (x1:Value) (x2:Value),v=(.agg #[nV r.1.op,nV r.1.n_,(tV r.1.name),x1])∧Mem w0 hz w' [blk bp0 [x2,(.bool (r.2.bad))] 54,ow [x1] r.1.kids,ow [x2] r.2.list]):=λw0 hz r_ bp0 v1p level hm0 hG1 r hq=>ih_1 r_ level r hq w0 hz bp0 v1p hm0 hG1
    have pimpl_wordReader__single_rec:∀ (w0:World) (hz:kX) (r_:kM) (bp0:Nat) (v1p:Value) (hm0:Mem w0 hz w0 [blk bp0 [v1p,(.bool (r_.bad))] 54,ow [v1p] r_.list]) (hG1:GT.rep hz [.slice (some ⟨1,0,none⟩) 1 1] [kO]) (r:kK × kM) (hq:rec_2 r_=some r),Con Tryz.prog 141 [(pV bp0)] w0 (λv w'=>∃ (x1:Value) (x2:Value),v=(.agg #[nV r.1.op,nV r.1.n_,(tV r.1.name),x1])∧Mem w0 hz w' [blk bp0 [x2,(.bool (r.2.bad))] 54,ow [x1] r.1.kids,ow [x2] r.2.list]):=λw0 hz r_ bp0 v1p hm0 hG1 r hq=>ih_2 r_ r hq w0 hz bp0 v1p hm0 hG1
    refine pO (ρ:=kK × kM) (R:=λr v w'=>∃ (x1:Value) (x2:Value),v=(.agg #[nV r.1.op,nV r.1.n_,(tV r.1.name),x1])∧Mem w0 hz w' [blk bp0 [x2,(.bool (r.2.bad))] 54,ow [x1] r.1.kids,ow [x2] r.2.list]) func141 rfl hq ?_
    have hm:=hm0
    refine gS (gR (gAl hm zeroValue80 rfl λaC w hm=>gE (gS (gR (gM rfl ?_)))))
    obtain ⟨ay,hle,hm1,hsub,az⟩:=hm.take2 (L1:=[_,_]) (L2:=[_]) [1,2] [0] (by decide) rfl rfl
    refine gCg rfl call100 (oD _ ay r_ bp0 v1p hm1 ) ?_
    rintro aD ba bb w ⟨aN,rfl,hB⟩
    replace hm:=az _ _ hB;clear hB
    refine gAl hm zeroValue47 rfl λaG w hm=>gSN hm 0 sizeOf47 (kL rfl (kL rfl ke)) rfl λw hm=>gE (gS (gBk (gS (gR (gM rfl (gY (yG rfl (kj rfl rfl)) (gF qt rfl (gL hm 1 isAgg4 rfl (gA rfl (gE (gs 8 rfl (λax=>?_) λax=>?_)))))))))))
    ·refine gct rfl (gS (gR (gY (yG rfl (kr (vs := []) (cs := #[nV 0, nV 0, (tV (mkS [])), .slice none 0 0]) rfl rfl (by kernel_rfl))) (gSN hm 3 sizeOf80 (kL rfl (kL rfl (kL rfl (kL rfl ke)))) rfl fun w hm => gE (gRt ?_)))))
     replace hm:=hm.nilow (α:=kK)
     exact grc 4 results141 hm rfl isAgg80 sizeOf80 ⟨.slice none 0 0,aN,rfl,hm.pk [2,0,3] rfl rfl⟩
    refine gcf rfl (gS (gW (.q 0 (.e 1 (.p 2 (.p 3 .fin)) .nil)) [1] [2,3] hm [0,1,2,3] [blk aG [nV aD.1.kind,(tV aD.1.text)] 47,blk bp0 [aN,(.bool (aD.2.bad))] 54,ow [aN] aD.2.list,blk aC [nV 0,nV 0,(tV (mkS [])),.slice none 0 0] 80] rfl mxo (by kernel_rfl) (λ_ _ _ h=>h.2) λw hm hS=>tQ rfl hS (λw hm=>yn (hm.blk_at 0 rfl) isAgg47 sizeOf47 rfl) (tO (gb λbC bT=>tf rfl rfl (λa hf=>lK hf rfl call20 rfl (lM _ (mkS [33]) _ bT)) ?_))))
    rintro bS w ⟨rfl,hB⟩
    replace hm:=hm.below' hB;clear hB
    refine tAk hm [0,1,2,3] rfl λhS=>tP rfl (λw=>yG rfl (af0 underlying47 (by kernel_rfl) (by kernel_rfl) (by decide) rfl rfl isAgg3 isAgg9 underlying3 underlying9 rfl rfl rfl)) (tP rfl (λw=>yA rfl) (tE (gs 14 rfl (λbr=>?_) λbr=>?_)))
    ·refine gct rfl (gS (gR (gM rfl ?_)))
     obtain ⟨bA,hle,hm1,hsub,bB⟩:=hm.take2 (L1:=[_,_]) (L2:=[_,_]) [1,2] [0,3] (by decide) rfl rfl
     refine gCg rfl call141 (pimpl_wordReader__single_rec _ bA aD.2 bp0 aN hm1 (GT.mono hle hG1)) ?_
     rintro aL cf bc w ⟨aa,aj,rfl,hB⟩
     replace hm:=bB _ _ hB;clear hB
     refine gf rfl (λa hf=>kS (vs:=#[(0,(.agg #[nV aL.1.op,nV aL.1.n_,(tV aL.1.name),aa]))]) (cs:=[nV aL.1.op,nV aL.1.n_,(tV aL.1.name),aa]) na hf hm rfl rfl (by kernel_rfl) rfl rfl) ?_
     rintro _ w ⟨aq,rfl,hm⟩
     replace hm:=hm.els_nil (α:=kK)
     replace hm:Mem w0 hz _ [els [] ([]:List kK),blk aq [nV aL.1.op,nV aL.1.n_,(tV aL.1.name),aa] 80,blk bp0 [aj,(.bool (aL.2.bad))] 54,ow [nV aL.1.op,nV aL.1.n_,(tV aL.1.name),aa] (aL.1:kK),ow [aj] aL.2.list,blk aG [nV aD.1.kind,(tV aD.1.text)] 47,blk aC [nV 0,nV 0,(tV (mkS [])),.slice none 0 0] 80]:=ly aL.1 hm 3 rfl
     replace hm:=(hm.els_cons 0 3 (by decide) rfl rfl).pk (L':=[_,_,_,_,_,_]) [0,1,2,4,5,6] rfl rfl
     replace hm:=(hm.lit_els 1 0 (by decide) rfl rfl rfl rfl).pk (L':=[_,_,_,_,_]) [1,2,3,4,5] rfl rfl
     exact gY (yG rfl (kr (vs:=[(0,(nV 11)),(3,(sV aq 0 1 1))]) (cs:=#[nV 11,nV 0,(tV (mkS [])),sV aq 0 1 1]) rfl rfl (by kernel_rfl))) (gSN hm 4 sizeOf80 (kL rfl (kL rfl (kL rfl (kL rfl ke)))) rfl λw hm=>gE (gRt (grc 4 results141 hm rfl isAgg80 sizeOf80 ⟨sV aq 0 1 1,aj,rfl,hm.pk [1,0,2] rfl rfl⟩)))
    refine gcf rfl (gS (gW (.q 0 (.e 1 (.p 2 (.p 3 .fin)) .nil)) [1] [2,3] hm [0,1,2,3] [blk aG [nV aD.1.kind,(tV aD.1.text)] 47,blk bp0 [aN,(.bool (aD.2.bad))] 54,ow [aN] aD.2.list,blk aC [nV 0,nV 0,(tV (mkS [])),.slice none 0 0] 80] rfl mxo (by kernel_rfl) (λ_ _ _ h=>h.2) λw hm hS=>tQ rfl hS (λw hm=>yn (hm.blk_at 0 rfl) isAgg47 sizeOf47 rfl) (tO (gb λcg bs=>tf rfl rfl (λa hf=>lK hf rfl call20 rfl (lM _ (mkS [64]) _ bs)) ?_))))
    rintro ab w ⟨rfl,hB⟩
    replace hm:=hm.below' hB;clear hB
    refine tAk hm [0,1,2,3] rfl λhS=>tP rfl (λw=>yG rfl (af0 underlying47 (by kernel_rfl) (by kernel_rfl) (by decide) rfl rfl isAgg3 isAgg9 underlying3 underlying9 rfl rfl rfl)) (tP rfl (λw=>yA rfl) (tE (gs 22 rfl (λbt=>?_) λbt=>?_)))
    ·refine gct rfl (gS (gR (gM rfl ?_)))
     obtain ⟨bu,hle,hm1,hsub,bv⟩:=hm.take2 (L1:=[_,_]) (L2:=[_,_]) [1,2] [0,3] (by decide) rfl rfl
     refine gCg rfl call141 (pimpl_wordReader__single_rec _ bu aD.2 bp0 aN hm1 (GT.mono hle hG1)) ?_
     rintro aM cj ac w ⟨ar,bR,rfl,hB⟩
     replace hm:=bv _ _ hB;clear hB
     refine gf rfl (λa hf=>kS (vs:=#[(0,(.agg #[nV aM.1.op,nV aM.1.n_,(tV aM.1.name),ar]))]) (cs:=[nV aM.1.op,nV aM.1.n_,(tV aM.1.name),ar]) na hf hm rfl rfl (by kernel_rfl) rfl rfl) ?_
     rintro _ w ⟨au,rfl,hm⟩
     replace hm:=hm.els_nil (α:=kK)
     replace hm:Mem w0 hz _ [els [] ([]:List kK),blk au [nV aM.1.op,nV aM.1.n_,(tV aM.1.name),ar] 80,blk bp0 [bR,(.bool (aM.2.bad))] 54,ow [nV aM.1.op,nV aM.1.n_,(tV aM.1.name),ar] (aM.1:kK),ow [bR] aM.2.list,blk aG [nV aD.1.kind,(tV aD.1.text)] 47,blk aC [nV 0,nV 0,(tV (mkS [])),.slice none 0 0] 80]:=ly aM.1 hm 3 rfl
     replace hm:=(hm.els_cons 0 3 (by decide) rfl rfl).pk (L':=[_,_,_,_,_,_]) [0,1,2,4,5,6] rfl rfl
     replace hm:=(hm.lit_els 1 0 (by decide) rfl rfl rfl rfl).pk (L':=[_,_,_,_,_]) [1,2,3,4,5] rfl rfl
     exact gY (yG rfl (kr (vs:=[(0,(nV 12)),(3,(sV au 0 1 1))]) (cs:=#[nV 12,nV 0,(tV (mkS [])),sV au 0 1 1]) rfl rfl (by kernel_rfl))) (gSN hm 4 sizeOf80 (kL rfl (kL rfl (kL rfl (kL rfl ke)))) rfl λw hm=>gE (gRt (grc 4 results141 hm rfl isAgg80 sizeOf80 ⟨sV au 0 1 1,bR,rfl,hm.pk [1,0,2] rfl rfl⟩)))
    refine gcf rfl (gS (gW (.q 0 (.e 1 (.p 2 (.p 3 .fin)) .nil)) [1] [2,3] hm [0,1,2,3] [blk aG [nV aD.1.kind,(tV aD.1.text)] 47,blk bp0 [aN,(.bool (aD.2.bad))] 54,ow [aN] aD.2.list,blk aC [nV 0,nV 0,(tV (mkS [])),.slice none 0 0] 80] rfl mxo (by kernel_rfl) (λ_ _ _ h=>h.2) λw hm hS=>tQ rfl hS (λw hm=>yn (hm.blk_at 0 rfl) isAgg47 sizeOf47 rfl) (tO (gb λck bw=>tf rfl rfl (λa hf=>lK hf rfl call20 rfl (lM _ (mkS [40]) _ bw)) ?_))))
    rintro cl w ⟨rfl,hB⟩
    replace hm:=hm.below' hB;clear hB
    refine tAk hm [0,1,2,3] rfl λhS=>tP rfl (λw=>yG rfl (af0 underlying47 (by kernel_rfl) (by kernel_rfl) (by decide) rfl rfl isAgg3 isAgg9 underlying3 underlying9 rfl rfl rfl)) (tP rfl (λw=>yA rfl) (tE (gs 30 rfl (λbz=>?_) λbz=>?_)))
    ·refine gct rfl (gS (gR (gM rfl ?_)))
     obtain ⟨cA,hle,hm1,hsub,cC⟩:=hm.take2 (L1:=[_,_]) (L2:=[_,_]) [1,2] [0,3] (by decide) rfl rfl
     refine gCg rfl call126 (pimpl_wordReader__expr_rec _ cA aD.2 bp0 aN 1 hm1 (GT.mono hle hG1)) ?_
     rintro cD cm cn w ⟨cE,cF,rfl,hB⟩
     replace hm:=cC _ _ hB;clear hB
     refine gAl hm zeroValue80 rfl λco w hm=>gSN hm 0 sizeOf80 (kL rfl (kL rfl (kL rfl (kL (ki (hm.ow_rep 2 rfl)) ke)))) rfl λw hm=>gE (gS (gR (gM rfl ?_)))
     obtain ⟨cG,hle,hm1,hsub,cH⟩:=hm.take2 (L1:=[_,_]) (L2:=[_,_,_,_]) [1,3] [0,2,4,5] (by decide) rfl rfl
     refine gCg rfl call61 (lX _ cG cD.2 bp0 cF 3 (mkS [41]) hm1 ) ?_
     rintro cq cr ct w ⟨cI,rfl,hB⟩
     replace hm:=cH _ _ hB;clear hB
     exact gE (gS (gR (gY (yn (hm.blk_at 2 rfl) isAgg80 sizeOf80 rfl) (gSN hm 5 sizeOf80 (kL rfl (kL rfl (kL rfl (kL (ki (hm.ow_rep 3 rfl)) ke)))) rfl λw hm=>gE (gRt (grc 5 results141 hm rfl isAgg80 sizeOf80 ⟨cE,cI,rfl,hm.pk [0,3,1] rfl rfl⟩))))))
    refine gcf rfl (gS (gR (gF sN rfl (gL hm 0 isAgg3 rfl (gB rfl (gA rfl (gE (gsd 39 rfl (λcJ=>?_) λcJ=>?_))))))))
    ·refine gct rfl (gS (gR (gY (yn (hm.blk_at 0 rfl) isAgg47 sizeOf47 rfl) (gC hm rfl call159 (xo _ aD.1) fun b9 cu w hm => gY (yG rfl (kr (vs := [(0, (nV 1)), (1, (nV b9))]) (cs := #[nV 1, nV b9, (tV (mkS [])), .slice none 0 0]) rfl rfl (by kernel_rfl))) (gSN hm 3 sizeOf80 (kL rfl (kL rfl (kL rfl (kL rfl ke)))) rfl fun w hm => gE (gRt ?_))))))
     replace hm:=hm.nilow (α:=kK)
     exact grc 4 results141 hm rfl isAgg80 sizeOf80 ⟨.slice none 0 0,aN,rfl,hm.pk [2,0,3] rfl rfl⟩
    refine gcf rfl (gS (gR (gF sN rfl (gL hm 0 isAgg3 rfl (gB rfl (gA rfl (gE (gsd 46 rfl (λcK=>?_) λcK=>?_))))))))
    ·refine gct rfl (gS (gR (gM rfl (gY (yG rfl (kj rfl rfl)) (gF qt rfl (gS1 hm 1 sizeOf4 rfl rfl fun w hm => gE (gS (gR (gY (yG rfl (kr (vs := []) (cs := #[nV 0, nV 0, (tV (mkS [])), .slice none 0 0]) rfl rfl (by kernel_rfl))) (gSN hm 3 sizeOf80 (kL rfl (kL rfl (kL rfl (kL rfl ke)))) rfl fun w hm => gE (gRt ?_)))))))))))
     replace hm:=hm.nilow (α:=kK)
     exact grc 4 results141 hm rfl isAgg80 sizeOf80 ⟨.slice none 0 0,aN,rfl,hm.pk [2,0,3] rfl rfl⟩
    refine gcf rfl (gS (gR (gM rfl ?_)))
    obtain ⟨cL,hle,hm1,hsub,cN⟩:=hm.take2 (L1:=[_,_]) (L2:=[_,_]) [1,2] [0,3] (by decide) rfl rfl
    refine gCg rfl call63 (mV _ cL aD.2 bp0 aN 3 (mkS [40]) hm1 ) ?_
    rintro cO cv cw w ⟨cP,rfl,hB⟩
    replace hm:=cN _ _ hB;clear hB
    refine gN rfl (gA rfl (gE (gsn 54 rfl (λcQ=>?_) λcQ=>?_)))
    ·refine gct rfl (gS (gR (gF o8 rfl (gL hm 2 isAgg9 rfl (gY (yG rfl (kr (vs := [(0, (nV 2)), (2, (tV aD.1.text))]) (cs := #[nV 2, nV 0, (tV aD.1.text), .slice none 0 0]) rfl rfl (by kernel_rfl))) (gSN hm 3 sizeOf80 (kL rfl (kL rfl (kL rfl (kL rfl ke)))) rfl fun w hm => gE (gRt ?_)))))))
     replace hm:=hm.nilow (α:=kK)
     exact grc 4 results141 hm rfl isAgg80 sizeOf80 ⟨.slice none 0 0,cP,rfl,hm.pk [1,0,2] rfl rfl⟩
    refine gcf rfl (gSk (gS (gR (gF o8 rfl (gL hm 2 isAgg9 rfl (gY (yG rfl (kr (vs:=[(0,(nV 13)),(2,(tV aD.1.text))]) (cs:=#[nV 13,nV 0,(tV aD.1.text),.slice none 0 0]) rfl rfl (by kernel_rfl))) (gAl hm zeroValue80 rfl λaU w hm=>gSN hm 0 sizeOf80 (kL rfl (kL rfl (kL rfl (kL rfl ke)))) rfl λw hm=>gE (gS ?_))))))))
    obtain ⟨bD,bE,rfl,bd⟩:=kT (hm.ow_rep 2 rfl)
    refine gJg (λaO a w=>∃ (av aw:Value),St 88 [(2,(pV aC)),(5,(pV aU))] w0 hz [blk aC [nV 0,nV 0,(tV (mkS [])),.slice none 0 0] 80,blk aU [nV 13,nV 0,(tV aD.1.text),av] 80,ow [av] aO.1,blk bp0 [aw,(.bool (aO.2.2))] 54,ow [aw] aO.2.1] a w) (λaO=>?_) ?_
    ·refine gBk ?_
     replace hm:=hm.nilow (α:=kK)
     refine gMg (λaA a w=>∃ (aS aQ:Value),St 88 [(0,(pV bp0)),(2,(pV aC)),(5,(pV aU))] w0 hz [blk bp0 [aS,(.bool (aA.2.1))] 54,ow [aS] aA.1,blk aC [nV 0,nV 0,(tV (mkS [])),.slice none 0 0] 80,blk aU [nV 13,nV 0,(tV aD.1.text),aQ] 80,ow [aQ] aA.2.2] a w) (λa hf=>⟨.slice bD cO.2.list.length bE,.slice none 0 0,hf.sb rfl,hm.pk [2,3,5,1,0] rfl rfl⟩) ?_
     repeat clear hm
     rintro bh ak aA a w ⟨aS,aQ,hf,hm⟩ bi al
     refine gv hf (gS (gS (gJg (λaK a w=>∃ (aR:Value),St 88 [(0,(pV bp0)),(2,(pV aC)),(5,(pV aU)),(73,(.bool (aK.2.2)))] w0 hz [blk bp0 [aR,(.bool (aK.2.1))] 54,ow [aR] aK.1,blk aC [nV 0,nV 0,(tV (mkS [])),.slice none 0 0] 80,blk aU [nV 13,nV 0,(tV aD.1.text),aQ] 80,ow [aQ] aA.2.2] a w) (λaK=>?_) ?_)))
     ·refine gR (gM rfl (gY (yG rfl (kj rfl rfl)) (gF qt rfl (gL hm 0 isAgg4 rfl (gN rfl (gM rfl (gsn 69 rfl (λcR=>?_) λcR=>?_)))))))
      ·refine gM rfl ?_
       obtain ⟨bN,hle,hm1,hsub,bO⟩:=hm.take2 (L1:=[_,_]) (L2:=[_,_,_]) [0,1] [2,3,4] (by decide) rfl rfl
       refine gCg rfl call63 (mV _ bN (⟨aA.1,aA.2.1⟩:kM) bp0 aS 3 (mkS [41]) hm1 ) ?_
       rintro cx cy bq w ⟨aY,rfl,hB⟩
       replace hm:=bO _ _ hB;clear hB
       exact gN rfl (gKt rfl (gE (gZ λa hf=>⟨aY,hf.sb rfl,hm.pk [0,1,2,3,4] rfl rfl⟩)))
      exact gO rfl (gO rfl (gO rfl (gKf rfl (gE (gZ λa hf=>⟨aS,hf.sb rfl,hm.pk [0,1,2,3,4] rfl rfl⟩)))))
     repeat clear hm
     rintro aK a w ⟨aR,hf,hm⟩
     refine gv hf (gs 73 rfl (λbF=>?_) λbF=>?_)
     ·refine gct rfl (gSk (gBk (gS (gS (gR (gF mJ rfl (gL hm 3 isAgg59 rfl ?_)))))))
      obtain ⟨aH,aI,rfl,bk⟩:=kT (hm.ow_rep 4 rfl)
      refine gY (yV nL rfl) (gB rfl (gE (gJg (λaP a w=>∃ (af:Value),St 88 [(0,(pV bp0)),(2,(pV aC)),(5,(pV aU))] w0 hz [blk bp0 [af,(.bool (aP.2))] 54,ow [af] aP.1,blk aC [nV 0,nV 0,(tV (mkS [])),.slice none 0 0] 80,blk aU [nV 13,nV 0,(tV aD.1.text),.slice aH aA.2.2.length aI] 80,ow [.slice aH aA.2.2.length aI] aA.2.2] a w) (λaP=>?_) ?_)))
      ·refine gsd 77 rfl (λcS=>?_) λcS=>?_
       ·refine gct rfl (gR (gM rfl ?_))
        obtain ⟨bP,hle,hm1,hsub,bQ⟩:=hm.take2 (L1:=[_,_]) (L2:=[_,_,_]) [0,1] [2,3,4] (by decide) rfl rfl
        refine gCg rfl call61 (lX _ bP (⟨aK.1,aK.2.1⟩:kM) bp0 aR 3 (mkS [44]) hm1 ) ?_
        rintro cz dA aZ w ⟨b8,rfl,hB⟩
        replace hm:=bQ _ _ hB;clear hB
        exact gE (gZ λa hf=>⟨b8,hf.sb rfl,hm.pk [0,1,2,3,4] rfl rfl⟩)
       exact gcf rfl (gSk (gZ λa hf=>⟨aR,hf.sb rfl,hm.pk [0,1,2,3,4] rfl rfl⟩))
      repeat clear hm
      rintro aP a w ⟨af,hf,hm⟩
      refine gv hf (gW (.p 0 (.p 2 (.q 1 (.e 3 (.e 4 (.e 5 (.p 6 (.e 7 .fin .nil)) .nil) .nil) .nil)))) [3,4] [0,2,6] hm [2,3,4] [blk aC [nV 0,nV 0,(tV (mkS [])),.slice none 0 0] 80,blk aU [nV 13,nV 0,(tV aD.1.text),.slice aH aA.2.2.length aI] 80,ow [.slice aH aA.2.2.length aI] aA.2.2] rfl mxo (by kernel_rfl) (λ_ _ _ h=>h.2) λw hm hS=>tP rfl (λw=>yF mJ rfl) (tP rfl (λw=>yM rfl) (tQ rfl hS (λw hm=>yL hm 1 isAgg59 rfl) (tO (gb λaJ bY=>?_)))))
      obtain ⟨bK,hle,hm1,hsub,bL⟩:=hm.take2 (L1:=[_,_]) (L2:=[_,_,_]) [0,1] [2,3,4] (by decide) rfl rfl
      refine tf rfl rfl (λa hf=>lK hf rfl call126 rfl (pimpl_wordReader__expr_rec _ bK (⟨aP.1,aP.2⟩:kM) bp0 af 1 hm1 (GT.mono hle hG1) _ bY)) ?_
      rintro bM w ⟨aV,aX,rfl,hB⟩
      replace hm:=bL _ _ hB;clear hB
      refine tAk hm [3,4,5] rfl λhS=>tO (tf rfl rfl (λa hf=>kS (vs:=#[(0,(.agg #[nV aJ.1.op,nV aJ.1.n_,(tV aJ.1.name),aV]))]) (cs:=[nV aJ.1.op,nV aJ.1.n_,(tV aJ.1.name),aV]) na hf hm rfl rfl (by kernel_rfl) rfl rfl) ?_)
      rintro _ w ⟨aT,rfl,hm⟩
      replace hm:=hm.els_nil (α:=kK)
      replace hm:Mem w0 hz _ [els [] ([]:List kK),blk aT [nV aJ.1.op,nV aJ.1.n_,(tV aJ.1.name),aV] 80,blk bp0 [aX,(.bool (aJ.2.bad))] 54,ow [nV aJ.1.op,nV aJ.1.n_,(tV aJ.1.name),aV] (aJ.1:kK),ow [aX] aJ.2.list,blk aC [nV 0,nV 0,(tV (mkS [])),.slice none 0 0] 80,blk aU [nV 13,nV 0,(tV aD.1.text),.slice aH aA.2.2.length aI] 80,ow [.slice aH aA.2.2.length aI] aA.2.2]:=ly aJ.1 hm 3 rfl
      replace hm:=(hm.els_cons 0 3 (by decide) rfl rfl).pk (L':=[_,_,_,_,_,_,_]) [0,1,2,4,5,6,7] rfl rfl
      replace hm:=(hm.lit_els 1 0 (by decide) rfl rfl rfl rfl).pk (L':=[_,_,_,_,_,_]) [1,2,3,4,5,6] rfl rfl
      refine tAk hm [3,4,5] rfl λhS=>tO (gb λdB cT=>?_)
      obtain ⟨bJ,cU⟩:=kb.1 cT
      replace hm:=(hm.both 5 0 (by decide) rfl rfl).pk (L':=[_,_,_,_,_]) [1,2,3,4,5] rfl rfl
      refine tf rfl rfl (λa hf=>lp (xs:=aA.2.2) (ys:=([aJ.1]:List kK)) 4 na hf hm rfl rfl rfl rfl bJ) ?_
      rintro cV w hm
      rw [cU] at hm
      refine tAn rfl (tP rfl (λw=>yF mJ rfl) (tO (tf0 rfl rfl (λa hf=>nP 3 hf hm rfl sizeOf59 rfl rfl rfl (ki (hm.ow_rep 4 rfl)) rfl) ?_)))
      rintro _ w hm
      exact tAn rfl (tE (gZe λa hf=>⟨aX,cV,hf.sb rfl,hm.pk [0,1,2,3,4] rfl rfl⟩))
     exact gcf rfl (gXt (gHh (gLp al ak (gZ λa hf=>⟨aQ,aR,hf.sb rfl,hm.pk [2,3,4,0,1] rfl rfl⟩))))
    repeat clear hm
    rintro aO a w ⟨av,aw,hf,hm⟩
    exact gv hf (gS (gR (gY (yn (hm.blk_at 1 rfl) isAgg80 sizeOf80 rfl) (gSN hm 0 sizeOf80 (kL rfl (kL rfl (kL rfl (kL (ki (hm.ow_rep 2 rfl)) ke)))) rfl λw hm=>gE (gRt (grc 0 results141 hm rfl isAgg80 sizeOf80 ⟨av,aw,rfl,hm.pk [3,2,4] rfl rfl⟩))))))
theorem qi (w0:World) (hz:kX) (r_:kM) (bp0:Nat) (v1p:Value) (level:Int) (hm0:Mem w0 hz w0 [blk bp0 [v1p,(.bool (r_.bad))] 54,ow [v1p] r_.list]) (hG1:GT.rep hz [.slice (some ⟨1,0,none⟩) 1 1] [kO]) (r:kK × kM) (hq:kQ r_ level=some r):Con Tryz.prog 126 [(pV bp0),nV level] w0 (λv w'=>∃ (x1:Value) (x2:Value),v=(.agg #[nV r.1.op,nV r.1.n_,(tV r.1.name),x1])∧Mem w0 hz w' [blk bp0 [x2,(.bool (r.2.bad))] 54,ow [x1] r.1.kids,ow [x2] r.2.list]):=(sX ).1 r_ level r hq w0 hz bp0 v1p hm0 hG1
end Go.Proofs.YtkopacpickeojaaGreatDoor
