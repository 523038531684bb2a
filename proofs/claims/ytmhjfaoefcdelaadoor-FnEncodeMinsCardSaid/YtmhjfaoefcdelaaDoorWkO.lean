/- A part of a proof: general laws of walks, no statement of the seat. -/
/- Maps of the call's own. -/
import Derived.Test.YtmhjfaoefcdelaaDoorWkN
import Derived.MapKept
namespace Go.Wk
open Go Go.RowKit

section
variable {κ β : Type} [DecidableEq κ]
/-- Where a key lies, and what lies there. -/
def findIx (k : κ) : List (κ × β) → Nat → Option (Nat × β)
  | [], _ => none
  | p :: r, i => if k = p.1 then some (i, p.2) else findIx k r (i + 1)
def lookM (es : List (κ × β)) (k : κ) : Option β := (findIx k es 0).map (·.2)
def insM (es : List (κ × β)) (k : κ) (v : β) : List (κ × β) := match findIx k es 0 with
  | some (i, _) => es.set i (k, v)
  | none => es ++ [(k, v)]

theorem findIx_some {k : κ} : ∀ {es : List (κ × β)} {i j : Nat} {v : β}, findIx k es i = some (j, v) → i ≤ j ∧ es[j - i]? = some (k, v)
  | [], _, _, _, h => by simp [findIx] at h
  | p :: r, i, j, v, h => by
    unfold findIx at h
    split at h
    · rename_i he
      simp only [Option.some.injEq, Prod.mk.injEq] at h
      obtain ⟨rfl, rfl⟩ := h
      subst he
      simp
    · obtain ⟨h1, h2⟩ := findIx_some h
      refine ⟨by omega, ?_⟩
      rw [show j - i = (j - (i + 1)) + 1 by omega, List.getElem?_cons_succ]
      exact h2
theorem findIx_none {k : κ} : ∀ {es : List (κ × β)} {i : Nat}, findIx k es i = none ↔ ∀ p ∈ es, k ≠ p.1
  | [], _ => by simp [findIx]
  | p :: r, i => by
    unfold findIx
    by_cases he : k = p.1
    · simp [he]
    · simp [he, findIx_none (es := r)]

/-- How keys of a type stand, and that the machine tells them apart. -/
structure KeyOk (P : Program) (kt : TypeId) (kenc : κ → Value) : Prop where
  check : ∀ n e k w, (Instr.checkKey e (n + 1) kt (kenc k)).run P w = .ok () w
  und : ∃ d, P.underlying kt = some d ∧ ∀ a b, Instr.sameNow d (kenc a) (kenc b) = some (decide (a = b))
  bits : ∀ a, Instr.sameBits 10000 (kenc a) (kenc a) = true

def mapc (kenc : κ → Value) (venc : β → Value) (r : Nat) (es : List (κ × β)) : Ch where
  pr F h := F r ∧ ∃ E clock, h r = some (.map E clock) ∧ E.toList.map (fun e => (e.key, e.val)) = es.map (fun p => (kenc p.1, venc p.2))
  loc F h h' := fun ⟨hF, E, c, h1, h2⟩ hh => ⟨hF, E, c, (hh r hF).trans h1, h2⟩
  mono F F' h := fun ⟨hF, hr⟩ hFF => ⟨hFF r hF, hr⟩

theorem findNow_ok {P : Program} {kt : TypeId} {kenc : κ → Value} {venc : β → Value} {d : TypeDesc} (hd : ∀ a b, Instr.sameNow d (kenc a) (kenc b) = some (decide (a = b))) (k : κ) :
    ∀ (E : List MapEntry) (es : List (κ × β)) (i : Nat), E.map (fun e => (e.key, e.val)) = es.map (fun p => (kenc p.1, venc p.2)) → Instr.findNow d (kenc k) E i = some ((findIx k es i).map fun q => (q.1, venc q.2))
  | [], [], i, _ => rfl
  | [], _ :: _, _, h => by simp at h
  | _ :: _, [], _, h => by simp at h
  | e :: E, p :: es, i, h => by
    simp only [List.map_cons, List.cons.injEq, Prod.mk.injEq] at h
    obtain ⟨⟨h1, h2⟩, h3⟩ := h
    unfold Instr.findNow findIx
    rw [h1, hd]
    by_cases he : k = p.1
    · simp [he, h2]
    · simp only [he, decide_false, if_false]
      exact findNow_ok (P := P) (kt := kt) hd k E es (i + 1) h3

variable {P : Program} {a : Act} {w w0 : World} {hz : Heap} {L : List Ch} {o : Oper} {n : Nat} {l : Env} {x y z : Operand} {t kt vt : TypeId} {kenc : κ → Value} {venc : β → Value} {r : Nat} {es : List (κ × β)}

theorem run_findKey (hK : KeyOk P kt kenc) {E : List MapEntry} (hE : E.map (fun e => (e.key, e.val)) = es.map (fun p => (kenc p.1, venc p.2))) (k : κ) (w : World) :
    (Instr.findKey kt (kenc k) E).run P w = .ok ((findIx k es 0).map fun q => (q.1, venc q.2)) w := by
  obtain ⟨d, h1, h2⟩ := hK.und
  have h := findNow_ok (P := P) (kt := kt) (venc := venc) h2 k E es 0 hE
  simp [Instr.findKey, run_underlying h1, h]

omit [DecidableEq κ] in
theorem e_makeMap (kenc : κ → Value) (venc : β → Value) (hm : Mem w0 hz w L) (ho : o.op = .makeMap t none) :
    Ef P a w o (fun v w' => ∃ r, v = .map (some r) ∧ Mem w0 hz w' (mapc kenc venc r ([] : List (κ × β)) :: L)) :=
  ef_value (w' := w.alloc (.map #[] 0)) (v := .map (some w.heap.size)) (by simp [execOp, ho, Instr.makeMap])
    ⟨_, rfl, hm.more ⟨rfl, rfl, rfl, by simp⟩ (fun b hb => Below.heap_alloc w _ b hb) ⟨fun b => b = w.heap.size, fun b hb => by subst hb; simp, rfl, #[], 0, heap_alloc_new w _, by simp⟩⟩

omit [DecidableEq κ] in
theorem map_at (hm : Mem w0 hz w L) (k : Nat) (hk : L[k]? = some (mapc kenc venc r es)) : ∃ E clock, w.heap[r]? = some (.map E clock) ∧ E.toList.map (fun e => (e.key, e.val)) = es.map (fun p => (kenc p.1, venc p.2)) := by
  obtain ⟨F, h, _⟩ := hm.get k hk
  exact h.2

theorem y_lookup {key : κ} {zv : Value} (k : Nat) (hK : KeyOk P kt kenc) (ht : P.underlying t = some (.map kt vt)) (hz0 : ∀ w, (zeroValue vt).run P w = .ok zv w) (hm : Mem w0 hz w L) (hk : L[k]? = some (mapc kenc venc r es)) (ho : o.op = .lookup t x y false)
    (hx : ev l x = some (.map (some r))) (hy : ev l y = some (kenc key)) : Yl P l w o ((lookM es key).elim zv venc) := fun n a hf => by
  obtain ⟨E, clock, h1, h2⟩ := map_at hm k hk
  have hf2 := run_findKey hK h2 key w
  have hc := hK.check 9999 E.isEmpty key w
  simp only [execOp, ho, hf.eval hx, hf.eval hy, Instr.lookup]
  simp [run_underlying ht, MapKept.run_getObj_map h1, hc, hf2]
  unfold lookM
  cases findIx key es 0 with
  | none => simp [hz0]
  | some q => simp

theorem y_lookup2 {key : κ} {zv : Value} (k : Nat) (hK : KeyOk P kt kenc) (ht : P.underlying t = some (.map kt vt)) (hz0 : ∀ w, (zeroValue vt).run P w = .ok zv w) (hm : Mem w0 hz w L) (hk : L[k]? = some (mapc kenc venc r es)) (ho : o.op = .lookup t x y true)
    (hx : ev l x = some (.map (some r))) (hy : ev l y = some (kenc key)) : Yl P l w o (.tuple #[(lookM es key).elim zv venc, .bool (lookM es key).isSome]) := fun n a hf => by
  obtain ⟨E, clock, h1, h2⟩ := map_at hm k hk
  have hf2 := run_findKey hK h2 key w
  have hc := hK.check 9999 E.isEmpty key w
  simp only [execOp, ho, hf.eval hx, hf.eval hy, Instr.lookup]
  simp [run_underlying ht, MapKept.run_getObj_map h1, hc, hf2]
  unfold lookM
  cases findIx key es 0 with
  | none => simp [hz0]
  | some q => simp

theorem run_update {key : κ} {v : β} {E : Array MapEntry} {clock : Nat} (hK : KeyOk P kt kenc) (ht : P.underlying t = some (.map kt vt)) (hb : w.heap[r]? = some (.map E clock)) (hE : E.toList.map (fun e => (e.key, e.val)) = es.map (fun p => (kenc p.1, venc p.2))) :
    ∃ E' clock', (Instr.mapUpdate t (.map (some r)) (kenc key) (venc v)).run P w = .ok () { w with heap := w.heap.setIfInBounds r (.map E' clock') } ∧ E'.toList.map (fun e => (e.key, e.val)) = (insM es key v).map (fun p => (kenc p.1, venc p.2)) := by
  have hf2 := run_findKey hK hE key w
  have hc := hK.check 9999 false key w
  unfold insM
  cases hq : findIx key es 0 with
  | none =>
    rw [hq] at hf2
    refine ⟨E.push { key := kenc key, val := venc v, born := clock }, clock + 1, ?_, ?_⟩
    · simp [Instr.mapUpdate, run_underlying ht, MapKept.run_getObj_map hb, hc, hf2, MapKept.run_setObj_map _ hb]
    · simp [hE]
  | some q =>
    obtain ⟨i, v0⟩ := q
    rw [hq] at hf2
    obtain ⟨_, h3⟩ := findIx_some hq
    rw [Nat.sub_zero] at h3
    have hlen : E.toList.length = es.length := by have := congrArg List.length hE; simpa using this
    have hi := (List.getElem?_eq_some_iff.1 h3).1
    have hkey : (E[i]?).map (·.key) = some (kenc key) := by
      have := congrArg (fun l => l[i]?) hE
      simp only [List.getElem?_map, h3, Option.map_some] at this
      cases he : E[i]? with
      | none => rw [← Array.getElem?_toList] at he; rw [he] at this; simp at this
      | some e => rw [← Array.getElem?_toList] at he; rw [he] at this; simp at this; simp [this.1]
    refine ⟨E.modify i fun e => { e with key := kenc key, val := venc v }, clock, ?_, ?_⟩
    · simp [Instr.mapUpdate, run_underlying ht, MapKept.run_getObj_map hb, hc, hf2, hkey, Instr.keyThatStays, hK.bits, MapKept.run_setObj_map _ hb]
    · apply List.ext_getElem?
      intro j
      have hj := congrArg (fun l => l[j]?) hE
      simp only [List.getElem?_map] at hj
      simp only [List.getElem?_map, Array.getElem?_toList, Array.getElem?_modify, List.getElem?_set]
      by_cases e : i = j
      · subst e
        simp only [if_true, hi]
        have : i < E.size := by simpa using (by rw [← hlen] at hi; exact hi : i < E.toList.length)
        simp [this]
      · simp only [e, if_false]
        rw [← hj, Array.getElem?_toList]

theorem e_mapUpdate {key : κ} {v : β} {b : Bool} (k : Nat) (hK : KeyOk P kt kenc) (ht : P.underlying t = some (.map kt vt)) (hf : Fr n l a) (hm : Mem w0 hz w L) (hk : L[k]? = some (mapc kenc venc r es)) (ho : o.op = if b then .insert t x y z else .mapUpdate t x y z)
    (hx : ev l x = some (.map (some r))) (hy : ev l y = some (kenc key)) (hv : ev l z = some (venc v)) :
    Ef P a w o (fun _ w' => Mem w0 hz w' (L.set k (mapc kenc venc r (insM es key v)))) := by
  obtain ⟨E, clock, h1, h2⟩ := map_at hm k hk
  obtain ⟨E', clock', h3, h4⟩ := run_update (v := v) hK ht h1 h2 (key := key)
  have hlt := (Array.getElem?_eq_some_iff.1 h1).1
  refine ef_skip (w' := { w with heap := w.heap.setIfInBounds r (.map E' clock') }) ?_ ?_
  · cases b <;> simp [execOp, ho, hf.eval hx, hf.eval hy, hf.eval hv, h3]
  · refine hm.upd k hk ⟨rfl, rfl, rfl, by simp⟩ fun F hF hFw => ⟨F, fun _ h => .inl h, fun c hc => by simpa using hFw c hc, ⟨hF.1, E', clock', ?_, h4⟩, fun c _ hne => ?_⟩
    · simp [hp, hlt]
    · have : r ≠ c := fun e => hne (by subst e; exact hF.1)
      simp [Array.getElem?_setIfInBounds, this]
end

theorem key_int {P : Program} {kt : TypeId} (h : P.underlying kt = some (.int .i64)) : KeyOk P kt (Value.int .i64) where
  check n e k w := by
    unfold Instr.checkKey
    simp [run_underlying h]
  und := ⟨_, h, fun a b => by simp [Instr.sameNow]; rfl⟩
  bits a := by simp [Instr.sameBits]

section
variable {P : Program} {l : Env} {w : World} {o : Oper} {x y : Operand} {t t' s : TypeId} {k' : IntKind} {i : Int} {b c : UInt8}
theorem y_conv8k {d : TypeDesc} (hs : P.underlying s = some d) (hd : P.underlying t = some (.int .u8)) (ho : o.op = .convert s t x) (hx : ev l x = some (.int k' i)) : Yl P l w o (.int .u8 ((byteI i).toNat : Int)) := by
  have := y_conv (w := w) hs hd ho hx
  rwa [byteI_wrap] at this
theorem y_rem8 (ho : o.op = .binOp .rem t x y t') (hx : ev l x = some (.int .u8 (b.toNat : Int))) (hy : ev l y = some (.int .u8 (c.toNat : Int))) (hc : c ≠ 0) : Yl P l w o (.int .u8 ((b % c).toNat : Int)) := fun n a hf => by
  have h0 : ¬ (c.toNat : Int) = 0 := fun h => hc (UInt8.toNat_inj.1 (by simpa using h))
  have h0' : ¬ c.toNat = 0 := by omega
  have h1 : (b.toNat : Int).tmod (c.toNat : Int) = ((b % c).toNat : Int) := by
    rw [UInt8.toNat_mod]; rfl
  simp [execOp, ho, hf.eval hx, hf.eval hy, binOp, eqGuard, Op.intDiv, h0', h1]
theorem y_quo8 (ho : o.op = .binOp .quo t x y t') (hx : ev l x = some (.int .u8 (b.toNat : Int))) (hy : ev l y = some (.int .u8 (c.toNat : Int))) (hc : c ≠ 0) : Yl P l w o (.int .u8 ((b / c).toNat : Int)) := fun n a hf => by
  have h0 : ¬ (c.toNat : Int) = 0 := fun h => hc (UInt8.toNat_inj.1 (by simpa using h))
  have h0' : ¬ c.toNat = 0 := by omega
  have h2 : IntKind.u8.wrap ((b.toNat : Int) / (c.toNat : Int)) = (b.toNat : Int) / (c.toNat : Int) := by
    rw [← Int.natCast_ediv, u8_wrap_nat, Nat.mod_eq_of_lt]
    have := Nat.div_le_self b.toNat c.toNat
    have := b.toNat_lt
    omega
  simp [execOp, ho, hf.eval hx, hf.eval hy, binOp, eqGuard, Op.intDiv, h0', h2]
end

theorem elim_getD {β γ : Type} {o : Option β} {f : β → γ} {z : β} {zv : γ} (h : zv = f z) : o.elim zv f = f (o.getD z) := by
  cases o <;> simp [h]

section
variable {P : Program} {fn : Func} {R : Value → World → Prop} {a : Act} {w w0 : World} {hz : Heap} {L : List Ch} {n : Nat} {l : Env} {v2 v3 : Value} {t t2 t3 : Nat}
theorem ret_cell_tmp2 {b T ty : Nat} {cs : List Value} (k : Nat) (hf : Fr n l a) (hr : fn.results = #[.cell t ty, .tmp t2, .tmp t3]) (hm : Mem w0 hz w L) (hk : L[k]? = some (blk b cs T)) (ht : lk l t = some (.pointer (some ⟨b, 0, none⟩)))
    (hg : ∀ w, (isAgg ty).run P w = .ok true w) (hs : ∀ w, (sizeOf ty).run P w = .ok cs.length w) (h2 : lk l t2 = some v2) (h3 : lk l t3 = some v3) (h : R (.tuple #[.agg cs.toArray, v2, v3]) w) : bodyPost P fn (Rt R) .ret a w := by
  refine ⟨hf.defers, .tuple #[.agg cs.toArray, v2, v3], ?_, h⟩
  have hl := run_loadVar_blk (hm.blk_cells k hk).1 hg hs
  simp [results, hr, hf.get _ _ ht, hf.get _ _ h2, hf.get _ _ h3, asAddr, hl]
end
end Go.Wk
