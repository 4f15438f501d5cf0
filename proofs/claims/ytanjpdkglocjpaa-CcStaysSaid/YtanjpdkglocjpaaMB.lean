/-
  What each operation of the evaluator says of the model's: soundness, operation by operation (but calls).
-/
import Derived.Test.YtanjpdkglocjpaaMA
import Derived.Laws.CopyRow
import Derived.Laws.Append
import Derived.Laws.Slices

namespace Go.Im

/-- how a world has gone on: blocks that no box stands for are as they were -/
structure Ext (g : Gh) (w : World) (g' : Gh) (w' : World) : Prop where
  size : w.heap.size ≤ w'.heap.size
  os : w'.os = w.os
  tape : w'.tape = w.tape
  output : w'.output = w.output
  keep : ∀ blk, blk < w.heap.size → (∀ b, g.β b ≠ some blk) → w'.heap[blk]? = w.heap[blk]?
  role : ∀ blk, blk < w.heap.size → g'.role blk = g.role blk
  beta : ∀ b x, g.β b = some x → g'.β b = some x
  fresh : ∀ b x, g'.β b = some x → g.β b = some x ∨ w.heap.size ≤ x

structure Inv (g : Gh) (w : World) : Prop where
  dflt : ∀ blk, w.heap.size ≤ blk → g.role blk = .ex
  ex : ∀ b blk, g.β b = some blk → g.role blk = .ex ∧ blk < w.heap.size
  inj : ∀ b b' blk, g.β b = some blk → g.β b' = some blk → b = b'

structure RelB (g : Gh) (w : World) (bx : Boxes) : Prop where
  at_ : ∀ b cs, bx b = some cs → ∃ blk cells T, g.β b = some blk ∧ w.heap[blk]? = some (.cells cells T (0, 0)) ∧ RelL g w cs cells.toList

theorem Ext.refl (g : Gh) (w : World) : Ext g w g w := ⟨Nat.le_refl _, rfl, rfl, rfl, fun _ _ _ => rfl, fun _ _ => rfl, fun _ _ h => h, fun _ _ h => .inl h⟩
theorem Ext.trans {g w g1 w1 g2 w2} (h : Ext g w g1 w1) (k : Ext g1 w1 g2 w2) : Ext g w g2 w2 where
  size := Nat.le_trans h.size k.size
  os := k.os.trans h.os
  tape := k.tape.trans h.tape
  output := k.output.trans h.output
  keep := fun blk hb hn => (k.keep blk (Nat.lt_of_lt_of_le hb h.size) (fun b hb' => (h.fresh b blk hb').elim (hn b) (fun h' => by omega))).trans (h.keep blk hb hn)
  role := fun blk hb => (k.role blk (Nat.lt_of_lt_of_le hb h.size)).trans (h.role blk hb)
  beta := fun b x hx => k.beta b x (h.beta b x hx)
  fresh := fun b x hx => (k.fresh b x hx).elim (h.fresh b x) (fun h' => .inr (Nat.le_trans h.size h'))
theorem Ext.le {g w g' w'} (h : Ext g w g' w') (i : Inv g w) : Le g w g' w' where
  ro := fun b hb => by
    have hlt : b < w.heap.size := Nat.lt_of_not_le fun hn => by rw [i.dflt b hn] at hb; cases hb
    rw [h.role b hlt]; exact hb
  cell := fun b o v hb hc => by
    have hlt : b < w.heap.size := Nat.lt_of_not_le fun hn => by rw [i.dflt b hn] at hb; cases hb
    rw [← hc]
    exact World.cell?_of_block (w := w) (a := ⟨b, o, none⟩) (h.keep b hlt (fun x hx => by have := (i.ex x b hx).1; rw [this] at hb; cases hb))
  beta := h.beta

/-- a draw -/
theorem Ext.drew (g : Gh) (w : World) : Ext g w g w.drew := ⟨Nat.le_refl _, rfl, rfl, rfl, fun _ _ _ => rfl, fun _ _ => rfl, fun _ _ h => h, fun _ _ h => .inl h⟩
theorem Inv.drew {g w} (i : Inv g w) : Inv g w.drew := ⟨i.dflt, i.ex, i.inj⟩
theorem RelB.of_ext_same {g w g' w' bx} (i : Inv g w) (h : Ext g w g' w') (hs : ∀ b blk, g.β b = some blk → w'.heap[blk]? = w.heap[blk]?) (r : RelB g w bx) : RelB g' w' bx :=
  ⟨fun b cs hb => let ⟨blk, cells, T, h1, h2, h3⟩ := r.at_ b cs hb; ⟨blk, cells, T, h.beta _ _ h1, (hs b blk h1).trans h2, h3.mono (h.le i)⟩⟩

theorem upd_same {α : Type} (f : Nat → α) (k : Nat) (v : α) : upd f k v k = v := by simp [upd]
theorem upd_other {α : Type} (f : Nat → α) (k j : Nat) (v : α) (h : j ≠ k) : upd f k v j = f j := by
  unfold upd
  have : Nat.beq j k = false := by
    cases hb : Nat.beq j k with
    | false => rfl
    | true => exact absurd (Nat.eq_of_beq_eq_true hb) h
  rw [this]

/-! ### new blocks -/
/-- a new block for a box -/
def Gh.box (g : Gh) (new blk : Nat) : Gh := { g with β := upd g.β new (some blk) }
/-- a new block that will not turn -/
def Gh.lay (g : Gh) (blk : Nat) : Gh := { g with role := upd g.role blk .ro }

theorem heap_push (w : World) (o : Obj) : (w.alloc o).heap[w.heap.size]? = some o := heap_alloc_new w o
theorem heap_push_lt (w : World) (o : Obj) (k : Nat) (h : k < w.heap.size) : (w.alloc o).heap[k]? = w.heap[k]? := heap_alloc_old w o h

theorem Ext.box {g w} (i : Inv g w) (new : Nat) (hnew : g.β new = none) (o : Obj) : Ext g w (g.box new w.heap.size) (w.alloc o) where
  size := by simp
  os := rfl
  tape := rfl
  output := rfl
  keep := fun blk hb _ => heap_push_lt w o blk hb
  role := fun _ _ => rfl
  beta := fun b x hx => by
    have : b ≠ new := fun e => by rw [e, hnew] at hx; cases hx
    simp only [Gh.box]; rw [upd_other _ _ _ _ this]; exact hx
  fresh := fun b x hx => by
    by_cases e : b = new
    · subst e; simp only [Gh.box, upd_same, Option.some.injEq] at hx; exact .inr (by omega)
    · simp only [Gh.box] at hx; rw [upd_other _ _ _ _ e] at hx; exact .inl hx
theorem Inv.box {g w} (i : Inv g w) (new : Nat) (o : Obj) : Inv (g.box new w.heap.size) (w.alloc o) where
  dflt := fun blk hb => i.dflt blk (by simp at hb; omega)
  ex := fun b blk hb => by
    by_cases e : b = new
    · subst e; simp only [Gh.box, upd_same, Option.some.injEq] at hb; subst hb; exact ⟨i.dflt _ (Nat.le_refl _), by simp⟩
    · simp only [Gh.box] at hb; rw [upd_other _ _ _ _ e] at hb
      have := i.ex b blk hb
      exact ⟨this.1, by simp; omega⟩
  inj := fun b b' blk hb hb' => by
    by_cases e : b = new <;> by_cases e' : b' = new
    · rw [e, e']
    · subst e; simp only [Gh.box, upd_same, Option.some.injEq] at hb
      simp only [Gh.box] at hb'; rw [upd_other _ _ _ _ e'] at hb'
      have := (i.ex _ _ hb').2; omega
    · subst e'; simp only [Gh.box, upd_same, Option.some.injEq] at hb'
      simp only [Gh.box] at hb; rw [upd_other _ _ _ _ e] at hb
      have := (i.ex _ _ hb).2; omega
    · simp only [Gh.box] at hb hb'; rw [upd_other _ _ _ _ e] at hb; rw [upd_other _ _ _ _ e'] at hb'
      exact i.inj _ _ _ hb hb'
theorem RelB.box {g w bx} (i : Inv g w) (r : RelB g w bx) (new : Nat) (hnew : g.β new = none) (cells : Array Value) (T : TypeId) (cs : List PVal) (h : RelL g w cs cells.toList) :
    RelB (g.box new w.heap.size) (w.alloc (.cells cells T)) (upd bx new (some cs)) where
  at_ := fun b cs' hb => by
    have he := (Ext.box i new hnew (.cells cells T)).le i
    by_cases e : b = new
    · subst e; rw [upd_same] at hb; cases hb
      exact ⟨_, cells, T, by simp [Gh.box, upd_same], heap_push w _, h.mono he⟩
    · rw [upd_other _ _ _ _ e] at hb
      obtain ⟨blk, c, T', h1, h2, h3⟩ := r.at_ b cs' hb
      exact ⟨blk, c, T', he.beta _ _ h1, (heap_push_lt w _ blk (i.ex _ _ h1).2).trans h2, h3.mono he⟩
theorem Ext.lay {g w} (_i : Inv g w) (o : Obj) : Ext g w (g.lay w.heap.size) (w.alloc o) where
  size := by simp
  os := rfl
  tape := rfl
  output := rfl
  keep := fun blk hb _ => heap_push_lt w o blk hb
  role := fun blk hb => by simp only [Gh.lay]; rw [upd_other _ _ _ _ (by omega)]
  beta := fun _ _ hx => hx
  fresh := fun _ _ hx => .inl hx
theorem Inv.lay {g w} (i : Inv g w) (o : Obj) : Inv (g.lay w.heap.size) (w.alloc o) where
  dflt := fun blk hb => by simp at hb; simp only [Gh.lay]; rw [upd_other _ _ _ _ (by omega)]; exact i.dflt blk (by omega)
  ex := fun b blk hb => by
    have := i.ex b blk hb
    refine ⟨?_, by simp; omega⟩
    simp only [Gh.lay]; rw [upd_other _ _ _ _ (by omega)]; exact this.1
  inj := i.inj
theorem RelB.lay {g w bx} (i : Inv g w) (r : RelB g w bx) (o : Obj) : RelB (g.lay w.heap.size) (w.alloc o) bx :=
  r.of_ext_same i (Ext.lay i o) fun b blk hb => heap_push_lt w o blk (i.ex b blk hb).2

/-! ### storing into a box -/
theorem Ext.store {g w} (b blk : Nat) (hb : g.β b = some blk) (c : Array Value) : Ext g w g (w.setRow blk c) where
  size := by simp
  os := rfl
  tape := rfl
  output := rfl
  keep := fun k _ hn => setRow_other w blk k c (fun e => hn b (e ▸ hb))
  role := fun _ _ => rfl
  beta := fun _ _ hx => hx
  fresh := fun _ _ hx => .inl hx
theorem Inv.setRow {g w} (i : Inv g w) (blk : Nat) (c : Array Value) : Inv g (w.setRow blk c) :=
  ⟨fun k hk => i.dflt k (by simpa using hk), fun b k hk => let h := i.ex b k hk; ⟨h.1, by simpa using h.2⟩, i.inj⟩
theorem RelB.store {g w bx} (i : Inv g w) (r : RelB g w bx) (b blk : Nat) (hb : g.β b = some blk) (old c : Array Value) (T : TypeId) (hg : w.heap[blk]? = some (.cells old T (0, 0))) (cs : List PVal) (h : RelL g w cs c.toList) :
    RelB g (w.setRow blk c) (upd bx b (some cs)) where
  at_ := fun b' cs' hb' => by
    have he := (Ext.store (w := w) b blk hb c).le i
    by_cases e : b' = b
    · subst e; rw [upd_same] at hb'; cases hb'
      exact ⟨blk, c, T, hb, setRow_heap w blk old c T _ hg, h.mono he⟩
    · rw [upd_other _ _ _ _ e] at hb'
      obtain ⟨k, c', T', h1, h2, h3⟩ := r.at_ b' cs' hb'
      have hne : k ≠ blk := fun e' => e (i.inj _ _ _ (e' ▸ h1) hb)
      exact ⟨k, c', T', h1, (setRow_other w blk k c hne).trans h2, h3.mono he⟩

end Go.Im

namespace Go.Im
variable {C : Cfg} {g : Gh} {w : World}

theorem run_underlying' {t : Nat} {d : TypeDesc} (h : C.P.underlying t = some d) (w : World) : (underlying t).run C.P w = .ok d w := run_underlying h w
theorem info_of_underlying {t : Nat} {d : TypeDesc} (h : C.P.underlying t = some d) : ∃ i, C.P.info? t = some i := by
  unfold Program.underlying at h
  cases hi : C.P.info? t with
  | none => rw [hi] at h; cases h
  | some i => exact ⟨i, rfl⟩
theorem cellsOf_info {t : Nat} {i : TypeInfo} (h : C.P.info? t = some i) : C.P.cellsOf t = i.size := by simp [Program.cellsOf, h]
theorem run_typeInfo {t : Nat} {i : TypeInfo} (h : C.P.info? t = some i) (w : World) : (typeInfo t).run C.P w = .ok i w := by simp [typeInfo, h]
theorem run_sizeOf {t : Nat} {i : TypeInfo} (h : C.P.info? t = some i) (w : World) : (sizeOf t).run C.P w = .ok (C.P.cellsOf t) w := by simp [sizeOf, run_typeInfo h, cellsOf_info h]
theorem run_isAgg {t : Nat} {b : Bool} (h : aggT C t = some b) (w : World) : (isAgg t).run C.P w = .ok b w := by
  unfold aggT at h
  cases hu : C.P.underlying t with
  | none => rw [hu] at h; cases h
  | some d =>
    rw [hu] at h
    simp only [Option.some.injEq] at h
    subst h
    unfold isAgg
    rw [Sem.run_bind, run_underlying' hu]
    cases d <;> rfl
theorem info_of_agg {t : Nat} {b : Bool} (h : aggT C t = some b) : ∃ i, C.P.info? t = some i := by
  unfold aggT at h
  cases hu : C.P.underlying t with
  | none => rw [hu] at h; cases h
  | some d => exact info_of_underlying hu

/-- a part of cells -/
theorem run_part {t : Nat} {cs : List PVal} {vs : List Value} {off : Nat} (r : RelL g w cs vs) (hok : (partV C t cs off).2 = true) :
    ∃ v, (part t vs.toArray off).run C.P w = .ok v w ∧ RelV g w (partV C t cs off).1 v ∧ (aggT C t = some true → v = .agg (vs.toArray.extract off (off + C.P.cellsOf t))) := by
  unfold partV at hok ⊢
  cases ha : aggT C t with
  | none => rw [ha] at hok; cases hok
  | some b =>
    obtain ⟨i, hi⟩ := info_of_agg ha
    cases b with
    | true =>
      refine ⟨.agg (vs.toArray.extract off (off + C.P.cellsOf t)), by simp [part, run_isAgg ha, run_sizeOf hi], ?_, fun _ => rfl⟩
      have h := relL_take (C.P.cellsOf t) (relL_drop off r)
      have := relV_agg_of h
      have e : ((vs.drop off).take (C.P.cellsOf t)).toArray = vs.toArray.extract off (off + C.P.cellsOf t) := by
        apply Array.toList_inj.1
        simp [List.take_drop]
      rw [e] at this
      exact this
    | false =>
      rw [ha] at hok
      cases hc : cs[off]? with
      | none => simp only [hc] at hok; cases hok
      | some p =>
        obtain ⟨v, hv, hr⟩ := r.2 off p hc
        refine ⟨v, ?_, ?_, fun h => by cases h⟩
        · simp [part, run_isAgg ha, hv]
        · exact hr

/-- loading what lies in cells that can be read -/
theorem run_loadVar_at {t : Nat} {cs : List PVal} {off : Nat} (blk base : Nat) (vs : List Value) (hc : ∀ j v, vs[j]? = some v → w.cell? ⟨blk, base + j, none⟩ = some v) (r : RelL g w cs vs)
    (hok : (partV C t cs off).2 = true) : ∃ v, (loadVar t ⟨blk, base + off, none⟩).run C.P w = .ok v w ∧ RelV g w (partV C t cs off).1 v := by
  unfold partV at hok ⊢
  cases ha : aggT C t with
  | none => rw [ha] at hok; cases hok
  | some b =>
    obtain ⟨i, hi⟩ := info_of_agg ha
    cases b with
    | true =>
      rw [ha] at hok
      have hle : off + C.P.cellsOf t ≤ cs.length := Nat.le_of_ble_eq_true hok
      have hlen : ((vs.drop off).take (C.P.cellsOf t)).length = C.P.cellsOf t := by
        have := r.1
        simp only [List.length_take, List.length_drop]; omega
      have hl := run_loadCells_list (P := C.P) w ⟨blk, base + off, none⟩ ((vs.drop off).take (C.P.cellsOf t)) (fun j v hv => by
        have hadd : (⟨blk, base + off, none⟩ : Addr).add j = ⟨blk, base + (off + j), none⟩ := by unfold Addr.add; split <;> simp_all [Nat.add_assoc]
        rw [hadd]
        rw [List.getElem?_take] at hv
        split at hv
        · rw [List.getElem?_drop] at hv; exact hc _ _ hv
        · cases hv)
      rw [hlen] at hl
      exact ⟨_, by simp [loadVar, run_isAgg ha, run_sizeOf hi, hl], relV_agg_of (relL_take _ (relL_drop off r))⟩
    | false =>
      rw [ha] at hok
      cases hcs : cs[off]? with
      | none => simp only [hcs] at hok; cases hok
      | some p =>
        obtain ⟨v, hv, hr⟩ := r.2 off p hcs
        refine ⟨v, ?_, hr⟩
        simp [loadVar, run_isAgg ha, hc off v hv]

theorem oneLeaf_spec {p : PVal} {v : Value} (h : oneLeaf p = true) (r : RelV g w p v) : v.oneCell' = true := by
  cases r <;> first | rfl | (simp [oneLeaf] at h)
theorem allOne_spec : ∀ {cs : List PVal} {vs : List Value}, allOne cs = true → RelL g w cs vs → ∀ v ∈ vs, v.oneCell' = true
  | [], vs, _, r => fun v hv => by
    have h0 : vs.length = 0 := r.1.symm
    rw [List.length_eq_zero_iff.1 h0] at hv; cases hv
  | c :: cs, vs, h, r => by
    unfold allOne at h
    cases hc : oneLeaf c with
    | false => rw [hc] at h; cases h
    | true =>
      rw [hc] at h
      cases vs with
      | nil => have := r.1; simp at this
      | cons v vs =>
        have h0 := r.2 0 c rfl
        obtain ⟨v', hv', hr'⟩ := h0
        simp at hv'; subst hv'
        intro x hx
        cases List.mem_cons.1 hx with
        | inl e => subst e; exact oneLeaf_spec hc hr'
        | inr e =>
          refine allOne_spec (cs := cs) (vs := vs) h ⟨by have := r.1; simpa using this, fun j pv hj => ?_⟩ x e
          obtain ⟨y, hy, hr⟩ := r.2 (j + 1) pv (by simpa using hj)
          exact ⟨y, by simpa using hy, hr⟩

theorem splice_eq : ∀ (cs : List PVal) (off : Nat) (vs : List PVal), off ≤ cs.length → splice cs off vs = cs.take off ++ vs ++ cs.drop (off + vs.length)
  | cs, 0, vs, _ => by simp [splice]
  | [], n + 1, vs, h => by simp at h
  | c :: cs, n + 1, vs, h => by
    have := splice_eq cs n vs (by simpa using h)
    simp only [splice, this, List.take_succ_cons, List.cons_append, Nat.add_right_comm n 1]
    simp [Nat.add_right_comm]

/-- storing into a box -/
theorem run_storeVar_box {t : Nat} {i : TypeInfo} (hi : C.P.info? t = some i) {b blk : Nat} {bx : Boxes} (inv : Inv g w) (rb : RelB g w bx) (hb : g.β b = some blk) {cs : List PVal} (hcs : bx b = some cs) {off : Nat} {p : PVal} {v : Value}
    (r : RelV g w p v) (hu : p ≠ .undef) (hl : p.cells.length = C.P.cellsOf t) (h1 : allOne p.cells = true) (hle : off + p.cells.length ≤ cs.length) :
    ∃ c, (storeVar t ⟨blk, off, none⟩ v).run C.P w = .ok () (w.setRow blk c) ∧ RelB g (w.setRow blk c) (upd bx b (some (splice cs off p.cells))) := by
  obtain ⟨blk', cells, T, h2, h3, h4⟩ := rb.at_ b cs hcs
  rw [hb] at h2
  cases h2
  have rc := r.cells hu
  have hlen : v.cells.toList.length = p.cells.length := rc.1.symm
  have hsz : cells.size = cs.length := by have := h4.1; simpa using this.symm
  have hst := run_storeCells_at (P := C.P) blk off T v.cells.toList 0 cells w h3 (by simp only [Nat.add_zero]; omega) (allOne_spec h1 rc)
  refine ⟨(cells.toList.take (off + 0) ++ v.cells.toList ++ cells.toList.drop (off + 0 + v.cells.toList.length)).toArray, ?_, RelB.store inv rb b blk hb cells _ T h3 _ ?_⟩
  · have hs : v.cells.size = C.P.cellsOf t := by rw [← hl, ← hlen]; simp
    simp [storeVar, run_sizeOf hi, hs, hst]
  · rw [splice_eq cs off p.cells (by omega)]
    simp only [Nat.add_zero, hlen]
    exact relL_append (relL_append (relL_take off h4) rc) (relL_drop _ h4)

end Go.Im

namespace Go.Im
variable {C : Cfg} {g : Gh} {w : World}

theorem run_eqGuard_int (op : BinOp) (t : Nat) (x y : Operand) (k k' : IntKind) (a b : Int) (w : World) : (eqGuard op t x y (.int k a) (.int k' b)).run C.P w = .ok () w := by
  unfold eqGuard
  cases op <;> rfl
theorem run_eqGuard_bool (op : BinOp) (t : Nat) (x y : Operand) (a b : Bool) (w : World) : (eqGuard op t x y (.bool a) (.bool b)).run C.P w = .ok () w := by
  unfold eqGuard
  cases op <;> rfl

theorem evBin_int_inv {op : BinOp} {t : Nat} {k k' : IntKind} {a b : Int} (h : (evBin C op t (.int k a) (.int k' b)).2 = true) :
    ∃ v, (binOp op t (.int k a) (.int k' b)).run C.P w = .ok v w ∧ RelV g w (evBin C op t (.int k a) (.int k' b)).1 v := by
  cases op
  case shl =>
    have hb : 0 ≤ b := of_decide_eq_true h
    exact ⟨_, by simp [binOp, Op.shift, show ¬ b < 0 by omega], .int _ _⟩
  case shr =>
    have hb : 0 ≤ b := of_decide_eq_true h
    exact ⟨_, by simp [binOp, Op.shift, show ¬ b < 0 by omega], .int _ _⟩
  case quo =>
    simp only [evBin] at h
    cases hk : kindEq k k' with
    | false => rw [hk] at h; cases h
    | true =>
      rw [hk] at h
      obtain rfl := kindEq_iff hk
      have hb : b ≠ 0 := by simpa using h
      exact ⟨_, by simp [binOp, Op.intDiv, hb], .int _ _⟩
  case rem =>
    simp only [evBin] at h
    cases hk : kindEq k k' with
    | false => rw [hk] at h; cases h
    | true =>
      rw [hk] at h
      obtain rfl := kindEq_iff hk
      have hb : b ≠ 0 := by simpa using h
      exact ⟨_, by simp [binOp, Op.intDiv, hb], .int _ _⟩
  all_goals
    obtain rfl := kindEq_iff h
    first
      | (refine ⟨_, ?_, .int _ _⟩; simp [binOp, Op.intArith]; done)
      | (refine ⟨_, ?_, .bool _⟩; simp [binOp, Op.intCmp]; done)
      | (refine ⟨_, ?_, .int _ _⟩; simp only [binOp, ne_eq, not_true_eq_false, if_false]; rfl)

theorem run_equal_bool {t : Nat} (hu : C.P.underlying t = some .bool) (a b : Bool) (w : World) : (Op.equal t (.bool a) (.bool b)).run C.P w = .ok (a == b) w := by
  have key : ∀ d, (Op.equalIn (d + 1) t (.bool a) (.bool b)).run C.P w = .ok (a == b) w := fun d => by simp [Op.equalIn, run_underlying' hu]
  exact key 9999

theorem sound_binOp {op : BinOp} {t : Nat} {x y : Operand} {p q : PVal} {u v : Value} (rp : RelV g w p u) (rq : RelV g w q v) (h : (evBin C op t p q).2 = true) :
    ∃ z, (do eqGuard op t x y u v; binOp op t u v : Sem Value).run C.P w = .ok z w ∧ RelV g w (evBin C op t p q).1 z := by
  unfold evBin at h
  split at h
  · cases rp; cases rq
    obtain ⟨z, hz, hr⟩ := evBin_int_inv (C := C) (g := g) (w := w) (op := op) (t := t) h
    exact ⟨z, by rw [Sem.run_bind, run_eqGuard_int, Result.andThen_ok, hz], hr⟩
  · cases rp; cases rq
    rename_i a b
    split at h
    · rename_i hu
      cases op <;> first
        | exact ⟨.bool (a == b), by simp [run_eqGuard_bool, binOp, run_equal_bool hu], by simp only [evBin, hu]; exact .bool _⟩
        | exact ⟨.bool (!(a == b)), by simp [run_eqGuard_bool, binOp, run_equal_bool hu], by simp only [evBin, hu]; exact .bool _⟩
        | cases h
    · cases h
  · cases h

theorem sound_unOp {op : UnOp} {p : PVal} {u : Value} (rp : RelV g w p u) (h : (evUn op p).2 = true) :
    ∃ z, (Op.unary op u).run C.P w = .ok z w ∧ RelV g w (evUn op p).1 z := by
  unfold evUn at h
  split at h
  · cases rp
    cases op <;> first
      | (refine ⟨_, ?_, .int _ _⟩; simp [Op.unary, Op.intArith]; done)
      | (refine ⟨_, ?_, .int _ _⟩; simp only [Op.unary]; rfl)
      | cases h
  · cases rp
    cases op <;> first
      | exact ⟨_, by simp [Op.unary], .bool _⟩
      | cases h
  · cases h

theorem sound_conv {src dst : Nat} {p : PVal} {u : Value} (rp : RelV g w p u) (h : (evConv C src dst p).2 = true) :
    ∃ z, (convert src dst u).run C.P w = .ok z w ∧ RelV g w (evConv C src dst p).1 z := by
  unfold evConv at h
  split at h
  · cases rp
    rename_i k n
    split at h
    · rename_i d kk hs hd
      refine ⟨.int kk (kk.wrap n), ?_, ?_⟩
      · unfold convert
        simp only [Sem.run_bind, run_underlying' hs, run_underlying' hd, Result.andThen_ok]
        cases d <;> simp [Conv.intToInt]
      · simp only [evConv, hs, hd]; exact .int _ _
    · cases h
  · cases h

/-! ### addresses -/
theorem sound_fieldAddr {s f off t : Nat} {p : PVal} {u : Value} (hf : fld C s f = some (off, t)) (rp : RelV g w p u) :
    (∀ b o, p = .ptr b o → ∃ z, (Instr.fieldAt s u f).run C.P w = .ok z w ∧ RelV g w (.ptr b (o + off)) z) ∧
    (∀ cs o, p = .rptr cs o → ∃ z, (Instr.fieldAt s u f).run C.P w = .ok z w ∧ RelV g w (.rptr cs (o + off)) z) := by
  unfold fld at hf
  split at hf
  · rename_i fs hu
    split at hf
    · rename_i fd hfd
      cases hz : Nat.beq (C.P.cellsOf fd.type) 0 with
      | true => rw [hz] at hf; cases hf
      | false =>
        rw [hz] at hf
        simp only [Option.some.injEq, Prod.mk.injEq] at hf
        obtain ⟨rfl, rfl⟩ := hf
        have hne : C.P.cellsOf fd.type ≠ 0 := fun e => by rw [e] at hz; cases hz
        have hinfo : ∃ i, C.P.info? fd.type = some i := by
          cases hi : C.P.info? fd.type with
          | none => simp [Program.cellsOf, hi] at hne
          | some i => exact ⟨i, rfl⟩
        obtain ⟨i, hi⟩ := hinfo
        have key : ∀ (a : Addr), (Instr.fieldAt s (.pointer (some a)) f).run C.P w = .ok (.pointer (some (a.add fd.offset))) w := by
          intro a
          simp [Instr.fieldAt, run_underlying' hu, hfd, Instr.sureAddr, fieldPlace, run_sizeOf hi, hne]
        have hadd : ∀ (blk o n : Nat), (⟨blk, o, none⟩ : Addr).add n = ⟨blk, o + n, none⟩ := by
          intro blk o n; unfold Addr.add; split <;> simp_all
        constructor
        · rintro b o rfl
          cases rp with
          | ptr _ _ blk hb => exact ⟨_, key _, by rw [hadd]; exact .ptr _ _ _ hb⟩
        · rintro cs o rfl
          cases rp with
          | rptr _ _ blk base ff hro hc hr => exact ⟨_, key _, by rw [hadd, Nat.add_assoc]; exact .rptr cs _ blk base ff hro hc hr⟩
    · cases hf
  · cases hf

theorem sound_field {s f off t : Nat} {cs : List PVal} {u : Value} (hf : fld C s f = some (off, t)) (rp : RelV g w (.agg cs) u) (hok : (partV C t cs off).2 = true) :
    ∃ z, (Instr.field s u f).run C.P w = .ok z w ∧ RelV g w (partV C t cs off).1 z := by
  unfold fld at hf
  split at hf
  · rename_i fs hu
    split at hf
    · rename_i fd hfd
      cases hz : Nat.beq (C.P.cellsOf fd.type) 0 with
      | true => rw [hz] at hf; cases hf
      | false =>
        rw [hz] at hf
        simp only [Option.some.injEq, Prod.mk.injEq] at hf
        obtain ⟨rfl, rfl⟩ := hf
        obtain ⟨vs, rfl, hr⟩ := rp.agg_inv
        obtain ⟨v, hv, hrv, _⟩ := run_part hr hok
        exact ⟨v, by simp [Instr.field, run_underlying' hu, hfd, asAgg]; simpa using hv, hrv⟩
    · cases hf
  · cases hf

/-- the element types' numbers are read rightly -/
structure EOk (C : Cfg) : Prop where
  at_ : ∀ e u, C.E e = some u → ∃ i z, C.P.info? e = some i ∧ i.size = u.size ∧ 0 < i.bytes ∧ i.bytes ≤ 4096 ∧ aggT C e = some u.isAgg ∧ i.zero = some z ∧ z.cells.size = u.size

theorem getD_get {α : Type} {l : List α} {n : Nat} (d : α) (h : n < l.length) : l[n]? = some (l.getD n d) := by simp [List.getD, h]

theorem sound_indexAddr (hE : EOk C) {t : Nat} {p i : PVal} {u j : Value} (rp : RelV g w p u) (ri : RelV g w i j) (h : (evIndexAddr C t p i).2 = true) :
    ∃ z, (Instr.indexAt t u j).run C.P w = .ok z w ∧ RelV g w (evIndexAddr C t p i).1 z := by
  unfold evIndexAddr at h ⊢
  cases ri <;> (try (cases h; done))
  rename_i k n
  simp only at h ⊢
  cases hu : C.P.underlying t with
  | none => rw [hu] at h; cases h
  | some d =>
    rw [hu] at h
    cases d <;> (try (simp only at h; cases h; done))
    case slice e =>
      cases rp <;> (try (simp only at h; cases h; done))
      case slemp uu o ad cap ho =>
        simp only at h
        cases he : C.E e with
        | none => rw [he] at h; cases h
        | some u' =>
          rw [he] at h
          simp only at h
          split at h
          · have := of_decide_eq_true (Bool.and_eq_true_iff.1 h).1
            have h2 := of_decide_eq_true (Bool.and_eq_true_iff.1 h).2
            simp at h2; omega
          · cases h
      case slice uu o l blk base cap f hl ho hro hc hr =>
        simp only at h
        cases he : C.E e with
        | none => rw [he] at h; cases h
        | some u' =>
          rw [he] at h
          simp only at h
          split at h
          · rename_i l' hcast
            obtain ⟨e1, _⟩ := U.castL_some hcast
            subst e1
            have h1 : 0 ≤ n := of_decide_eq_true (Bool.and_eq_true_iff.1 h).1
            have h2 : n < l.length := of_decide_eq_true (Bool.and_eq_true_iff.1 h).2
            obtain ⟨inf, z, hi, hs, _, _, _, _, _⟩ := hE.at_ e uu he
            have hn : n.toNat < l.length := by omega
            have hadd : ∀ (blk o n : Nat), (⟨blk, o, none⟩ : Addr).add n = ⟨blk, o + n, none⟩ := by
              intro blk o n; unfold Addr.add; split <;> simp_all
            refine ⟨.pointer (some ⟨blk, base + n.toNat * uu.size, none⟩), ?_, ?_⟩
            · simp [Instr.indexAt, asIntOf, run_underlying' hu, h1, h2, run_sizeOf hi, cellsOf_info hi, hs, hadd]
            · have hx := getD_get uu.dflt hn
              have := RelV.rptr (g := g) (w := w) (uu.cells (l.getD n.toNat uu.dflt)) 0 blk (base + n.toNat * uu.size) (fun j => f (n.toNat * uu.size + j)) hro
                (fun j hj => by
                  rw [uu.size_cells] at hj
                  rw [Nat.add_assoc]
                  refine hc _ ?_
                  have := Nat.mul_le_mul_right uu.size hn
                  rw [Nat.succ_mul] at this; omega)
                (fun j pv hj => hr _ _ hx j pv hj)
              simpa using this
          · cases h

end Go.Im

namespace Go.Im
variable {C : Cfg} {g : Gh} {w : World}

/-! ### slice expressions -/
theorem addr_add (blk o n : Nat) : (⟨blk, o, none⟩ : Addr).add n = ⟨blk, o + n, none⟩ := by unfold Addr.add; split <;> simp_all

theorem rel_sub {u : U} {l : List u.D} {blk base : Nat} {f : Nat → Value} (a h cap : Nat) (o : Bool) (ha : a ≤ h) (hh : h ≤ l.length) (hcap : h - a ≤ cap) (ho : o = true → cap = h - a) (hro : g.role blk = .ro)
    (hc : ∀ j, j < l.length * u.size → w.cell? ⟨blk, base + j, none⟩ = some (f j))
    (hr : ∀ (i : Nat) (x : u.D), l[i]? = some x → ∀ (j : Nat) (pv : PVal), (u.cells x)[j]? = some pv → RelV g w pv (f (i * u.size + j))) :
    RelV g w (.slice u o ((l.take h).drop a)) (.slice (some ⟨blk, base + a * u.size, none⟩) (h - a) cap) := by
  have hlen : ((l.take h).drop a).length = h - a := by simp; omega
  have key := RelV.slice (g := g) (w := w) u o ((l.take h).drop a) blk (base + a * u.size) cap (fun j => f (a * u.size + j)) (by omega) (by rw [hlen]; exact ho) hro
    (fun j hj => by
      rw [Nat.add_assoc]
      refine hc _ ?_
      rw [hlen] at hj
      have h1 : (a + (h - a)) * u.size ≤ l.length * u.size := Nat.mul_le_mul_right _ (by omega)
      rw [Nat.add_mul] at h1; omega)
    (fun i x hx j pv hj => by
      rw [List.getElem?_drop, List.getElem?_take] at hx
      split at hx
      · have := hr _ x hx j pv hj
        rw [Nat.add_mul, Nat.add_assoc] at this; exact this
      · cases hx)
  rw [hlen] at key
  exact key

/-- the same, where nothing is left of the room the address stays -/
theorem rel_sub' {u : U} {l : List u.D} {blk base : Nat} {f : Nat → Value} (a h m : Nat) (o : Bool) (ha : a ≤ h) (hh : h ≤ l.length) (hm : h ≤ m) (ho : o = true → m = h) (hro : g.role blk = .ro)
    (hc : ∀ j, j < l.length * u.size → w.cell? ⟨blk, base + j, none⟩ = some (f j))
    (hr : ∀ (i : Nat) (x : u.D), l[i]? = some x → ∀ (j : Nat) (pv : PVal), (u.cells x)[j]? = some pv → RelV g w pv (f (i * u.size + j))) :
    RelV g w (.slice u o ((l.take h).drop a)) (.slice (if m = a then some ⟨blk, base, none⟩ else some ⟨blk, base + a * u.size, none⟩) (h - a) (m - a)) := by
  split
  · have e : h - a = 0 := by omega
    have e2 : (l.take h).drop a = [] := List.eq_nil_of_length_eq_zero (by simp; omega)
    rw [e, e2]
    exact .slemp u o _ _ (fun _ => by omega)
  · exact rel_sub a h (m - a) o ha hh (by omega) (fun e => by have := ho e; omega) hro hc hr

theorem bnd_spec {p : PVal} {v : Value} {n : Int} {d : Int} (r : RelV g w p v) (h : bnd d (some p) = (n, true)) : ∃ k, v = .int k n := by
  cases r <;> simp [bnd] at h
  subst h; exact ⟨_, rfl⟩
theorem bnd_some {d : Int} {x : PVal} (h : (bnd d (some x)).2 = true) : ∃ k n, x = .int k n ∧ bnd d (some x) = (n, true) := by
  cases x <;> simp [bnd] at h ⊢

theorem run_sliceBound' (k : IntKind) (i : Int) (y : Nat) (code : BoundsCode) (h0 : 0 ≤ i) (h1 : i ≤ y) (w : World) : (Instr.sliceBound (.int k i) y code).run C.P w = .ok i.toNat w := by
  simp [Instr.sliceBound, asIntOf, h0, h1]

inductive RelO (g : Gh) (w : World) : Option PVal → Option Value → Prop
  | none : RelO g w none none
  | some (p : PVal) (v : Value) (h : RelV g w p v) : RelO g w (some p) (some v)

theorem run_bounds2 {lo hi : Option PVal} {lo' hi' : Option Value} {len cap : Nat} {a h : Int} (isS : Bool) (rlo : RelO g w lo lo') (rhi : RelO g w hi hi')
    (ha : bnd 0 lo = (a, true)) (hh : bnd len hi = (h, true)) (h0 : 0 ≤ a) (h1 : a ≤ h) (h2 : h ≤ len) (h3 : len ≤ cap) :
    (Instr.sliceBounds isS len cap lo' hi' none).run C.P w = .ok (a.toNat, h.toNat, cap) w := by
  have hn : ((h.toNat : Nat) : Int) = h := by omega
  unfold Instr.sliceBounds
  cases rhi with
  | none =>
    simp only [bnd, Prod.mk.injEq, and_true] at hh
    subst hh
    simp only [Sem.run_bind, Sem.run_pure, Result.andThen_ok]
    cases rlo with
    | none => simp [bnd] at ha; subst ha; simp
    | some p v rv =>
      obtain ⟨k, rfl⟩ := bnd_spec rv ha
      simp only [Sem.run_bind]
      rw [run_sliceBound' k a (len) _ h0 (by omega)]
      simp
  | some p v rv =>
    obtain ⟨k, rfl⟩ := bnd_spec rv hh
    simp only [Sem.run_bind, Sem.run_pure, Result.andThen_ok]
    rw [run_sliceBound' k h cap _ (by omega) (by omega)]
    simp only [Result.andThen_ok]
    cases rlo with
    | none => simp [bnd] at ha; subst ha; simp
    | some p v rv =>
      obtain ⟨k, rfl⟩ := bnd_spec rv ha
      simp only [Sem.run_bind]
      rw [run_sliceBound' k a (h.toNat) _ h0 (by omega)]
      simp

theorem run_bounds3 {lo : Option PVal} {lo' : Option Value} {p q : PVal} {pv qv : Value} {len cap : Nat} {a h : Int} (isS : Bool) (rlo : RelO g w lo lo') (rp : RelV g w p pv) (rq : RelV g w q qv)
    (ha : bnd 0 lo = (a, true)) (hh : bnd len (some p) = (h, true)) (hm : bnd 0 (some q) = (h, true)) (h0 : 0 ≤ a) (h1 : a ≤ h) (h2 : h ≤ len) (h3 : len ≤ cap) :
    (Instr.sliceBounds isS len cap lo' (some pv) (some qv)).run C.P w = .ok (a.toNat, h.toNat, h.toNat) w := by
  have hn : ((h.toNat : Nat) : Int) = h := by omega
  unfold Instr.sliceBounds
  obtain ⟨k, rfl⟩ := bnd_spec rp hh
  obtain ⟨km, rfl⟩ := bnd_spec rq hm
  simp only [Sem.run_bind]
  rw [run_sliceBound' km h cap _ (by omega) (by omega)]
  simp only [Result.andThen_ok]
  rw [run_sliceBound' k h h.toNat _ (by omega) (by omega)]
  simp only [Result.andThen_ok]
  cases rlo with
  | none => simp [bnd] at ha; subst ha; simp
  | some p v rv =>
    obtain ⟨k, rfl⟩ := bnd_spec rv ha
    simp only [Sem.run_bind]
    rw [run_sliceBound' k a (h.toNat) _ h0 (by omega)]
    simp

theorem relO_map {rd : Operand → PVal} {ev : Operand → Value} {x : Option Operand} (h : ∀ y, x = some y → RelV g w (rd y) (ev y)) : RelO g w (x.map rd) (x.map ev) := by
  cases x with
  | none => exact .none
  | some y => exact .some _ _ (h y rfl)

theorem sound_slice (hE : EOk C) {t : Nat} {p : PVal} {u : Value} {lo hi mx : Option PVal} {lo' hi' mx' : Option Value} (rp : RelV g w p u)
    (rlo : RelO g w lo lo') (rhi : RelO g w hi hi') (rmx : RelO g w mx mx') (hok : (evSlice C t p lo hi mx).2 = true) :
    ∃ z, (Instr.sliceAt t u lo' hi' mx').run C.P w = .ok z w ∧ RelV g w (evSlice C t p lo hi mx).1 z := by
  unfold evSlice at hok ⊢
  cases hu : C.P.underlying t with
  | none => rw [hu] at hok; cases hok
  | some d =>
    rw [hu] at hok
    cases d <;> (try (simp only at hok; cases hok; done))
    rename_i e
    cases p <;> (try (simp only at hok; cases hok; done))
    rename_i uu o l
    simp only at hok ⊢
    cases hh : bnd l.length hi with
    | mk h hb =>
    cases ha : bnd 0 lo with
    | mk a ab =>
    rw [hh, ha] at hok
    simp only at hok ⊢
    cases hb <;> (try (simp only at hok; cases hok; done))
    cases ab <;> (try (simp only at hok; cases hok; done))
    cases hm0 : (bnd 0 mx).2 <;> (rw [hm0] at hok) <;> (try (simp only at hok; cases hok; done))
    cases he : C.E e with
    | none => rw [he] at hok; simp only at hok; cases hok
    | some u' =>
      rw [he] at hok
      simp only at hok
      cases hcast : U.castL uu u' l with
      | none => rw [hcast] at hok; simp only at hok; cases hok
      | some l' =>
        rw [hcast] at hok
        simp only at hok
        obtain ⟨e1, _⟩ := U.castL_some hcast
        subst e1
        obtain ⟨inf, z, hi0, hs, _, _, _, _, _⟩ := hE.at_ e uu he
        obtain ⟨q1, q2⟩ := Bool.and_eq_true_iff.1 hok
        obtain ⟨q1, q3⟩ := Bool.and_eq_true_iff.1 q1
        obtain ⟨q1, q4⟩ := Bool.and_eq_true_iff.1 q1
        have h0 : 0 ≤ a := of_decide_eq_true q1
        have h1 : a ≤ h := of_decide_eq_true q4
        have h2 : h ≤ l.length := of_decide_eq_true q3
        have hsz : C.P.cellsOf e = uu.size := by rw [cellsOf_info hi0, hs]
        cases rmx with
        | none =>
          cases rp with
          | slemp _ _ ad cap ho =>
            have hb := run_bounds2 (C := C) (len := 0) (cap := cap) true rlo rhi ha (by simpa using hh) h0 h1 (by simpa using h2) (by omega)
            have e0 : h.toNat = 0 := by simp at h2; omega
            have ea : a.toNat = 0 := by omega
            refine ⟨.slice (if cap = 0 then ad else ad.map (·.add (0 * uu.size))) 0 cap, ?_, ?_⟩
            · simp only [Instr.sliceAt, Instr.slice, Sem.run_bind, run_underlying' hu, Result.andThen_ok]
              rw [hb]
              simp [run_sizeOf hi0, hsz, e0, ea]
            · rw [e0]; simp only [List.take_nil, List.drop_nil, List.take_zero]
              exact .slemp _ _ _ _ (by simp)
          | slice _ _ _ blk base cap f hl ho hro hc hr =>
            have hb := run_bounds2 (C := C) (len := l.length) (cap := cap) true rlo rhi ha hh h0 h1 h2 hl
            refine ⟨.slice (if cap = a.toNat then some ⟨blk, base, none⟩ else some ⟨blk, base + a.toNat * uu.size, none⟩) (h.toNat - a.toNat) (cap - a.toNat), ?_, ?_⟩
            · simp only [Instr.sliceAt, Instr.slice, Sem.run_bind, run_underlying' hu, Result.andThen_ok]
              rw [hb]
              simp [run_sizeOf hi0, hsz, addr_add]
            · exact rel_sub' a.toNat h.toNat cap _ (by omega) (by omega) (by omega) (by simp) hro hc hr
        | some q qv rq =>
          cases rhi with
          | none => cases q2
          | some pp pv rpp =>
            have hmq : bnd 0 (some q) = (h, true) := by
              have : (bnd 0 (some q)).1 = h := of_decide_eq_true q2
              rw [← this, ← hm0]
            cases rp with
            | slemp _ _ ad cap ho =>
              have hb := run_bounds3 (C := C) (len := 0) (cap := cap) true rlo rpp rq ha (by simpa using hh) hmq h0 h1 (by simpa using h2) (by omega)
              have e0 : h.toNat = 0 := by simp at h2; omega
              have ea : a.toNat = 0 := by omega
              refine ⟨.slice ad 0 0, ?_, ?_⟩
              · simp only [Instr.sliceAt, Instr.slice, Sem.run_bind, run_underlying' hu, Result.andThen_ok]
                rw [hb]
                simp [run_sizeOf hi0, e0, ea]
              · rw [e0]; simp only [List.take_nil, List.drop_nil, List.take_zero]
                exact .slemp _ _ _ _ (by simp)
            | slice _ _ _ blk base cap f hl ho hro hc hr =>
              have hb := run_bounds3 (C := C) (len := l.length) (cap := cap) true rlo rpp rq ha hh hmq h0 h1 h2 hl
              refine ⟨.slice (if h.toNat = a.toNat then some ⟨blk, base, none⟩ else some ⟨blk, base + a.toNat * uu.size, none⟩) (h.toNat - a.toNat) (h.toNat - a.toNat), ?_, ?_⟩
              · simp only [Instr.sliceAt, Instr.slice, Sem.run_bind, run_underlying' hu, Result.andThen_ok]
                rw [hb]
                simp [run_sizeOf hi0, hsz, addr_add]
              · exact rel_sub' a.toNat h.toNat h.toNat _ (by omega) (by omega) (by omega) (by simp) hro hc hr

end Go.Im

namespace Go.Im
variable {C : Cfg} {g : Gh} {w : World}

/-! ### len, min, max -/
theorem sound_len {t : Nat} {p : PVal} {u : Value} (rp : RelV g w p u) (h : (evLen C t p).2 = true) (ty : Nat) :
    ∃ z, (Builtin.len_ #[t] ty #[u]).run C.P w = .ok z w ∧ RelV g w (evLen C t p).1 z := by
  unfold evLen at h
  split at h
  · simp only at h
    split at h <;> (try (cases h; done))
    rename_i e hu
    cases rp with
    | slemp _ _ ad cap ho => exact ⟨.int .i64 0, by simp [Builtin.len_, run_underlying' hu, goInt], .int _ _⟩
    | slice _ _ _ blk base cap f => exact ⟨_, by simp [Builtin.len_, run_underlying' hu, goInt], .int _ _⟩
  · simp only at h
    split at h <;> (try (cases h; done))
    rename_i e hu
    cases rp
    exact ⟨.int .i64 0, by simp [Builtin.len_, run_underlying' hu, goInt], .int _ _⟩
  · simp only at h
    split at h <;> (try (cases h; done))
    rename_i hu
    cases rp with
    | str =>
      refine ⟨_, ?_, .int _ _⟩
      simp only [Builtin.len_, goInt]
      simp [run_underlying' hu]
      rfl
  · cases h

theorem sound_min2 {p q : PVal} {u v : Value} (rp : RelV g w p u) (rq : RelV g w q v) (h : (evMin2 p q).2 = true) :
    ∃ z, (Builtin.min2 u v).run C.P w = .ok z w ∧ RelV g w (evMin2 p q).1 z := by
  unfold evMin2 at h
  split at h
  · cases rp; cases rq; exact ⟨_, rfl, .int _ _⟩
  · cases h
theorem sound_max2 {p q : PVal} {u v : Value} (rp : RelV g w p u) (rq : RelV g w q v) (h : (evMax2 p q).2 = true) :
    ∃ z, (Builtin.max2 u v).run C.P w = .ok z w ∧ RelV g w (evMax2 p q).1 z := by
  unfold evMax2 at h
  split at h
  · cases rp; cases rq; exact ⟨_, rfl, .int _ _⟩
  · cases h
theorem sound_fold (f : PVal → PVal → PVal × Bool) (F : Value → Value → Sem Value)
    (hf : ∀ p q u v, RelV g w p u → RelV g w q v → (f p q).2 = true → ∃ z, (F u v).run C.P w = .ok z w ∧ RelV g w (f p q).1 z) :
    ∀ (ps : List PVal) (vs : List Value) (p : PVal) (u : Value), RelV g w p u → RelL g w ps vs → (evFold f p ps).2 = true →
      ∃ z, (vs.foldlM F u).run C.P w = .ok z w ∧ RelV g w (evFold f p ps).1 z
  | [], vs, p, u, rp, r, _ => by
    have h0 : vs.length = 0 := r.1.symm
    rw [List.length_eq_zero_iff.1 h0]
    exact ⟨u, rfl, rp⟩
  | q :: ps, vs, p, u, rp, r, h => by
    cases vs with
    | nil => have := r.1; simp at this
    | cons v vs =>
      obtain ⟨v', hv', rq⟩ := r.2 0 q rfl
      simp at hv'; subst hv'
      have rt : RelL g w ps vs := ⟨by have := r.1; simpa using this, fun j pv hj => by
        obtain ⟨y, hy, hr⟩ := r.2 (j + 1) pv (by simpa using hj)
        exact ⟨y, by simpa using hy, hr⟩⟩
      unfold evFold at h ⊢
      cases hq : (f p q).2 with
      | false => rw [hq] at h; cases h
      | true =>
        rw [hq] at h
        obtain ⟨z, hz, rz⟩ := hf p q u v rp rq hq
        obtain ⟨y, hy, ry⟩ := sound_fold f F hf ps vs _ z rz rt h
        refine ⟨y, ?_, ry⟩
        rw [List.foldlM_cons, Sem.run_bind, hz, Result.andThen_ok, hy]

/-! ### append -/
/-- a slice value: how long, and its cells in a row -/
theorem slice_cells {u : U} {o : Bool} {l : List u.D} {v : Value} (r : RelV g w (.slice u o l) v) :
    ∃ (a : Option Addr) (cap : Nat) (cs : List Value), v = .slice a l.length cap ∧ l.length ≤ cap ∧ (o = true → cap = l.length) ∧ cs.length = l.length * u.size ∧
      (∀ j x, cs[j]? = some x → ∃ ad, a = some ad ∧ w.cell? (ad.add j) = some x) ∧
      (∀ (i : Nat) (x : u.D), l[i]? = some x → ∀ (j : Nat) (pv : PVal), (u.cells x)[j]? = some pv → ∃ y, cs[i * u.size + j]? = some y ∧ RelV g w pv y) := by
  cases r with
  | slemp _ _ ad cap ho => exact ⟨ad, cap, [], rfl, by simp, by simpa using ho, by simp, by simp, by simp⟩
  | slice _ _ _ blk base cap f hl ho hro hc hr =>
    refine ⟨some ⟨blk, base, none⟩, cap, (List.range (l.length * u.size)).map f, rfl, hl, ho, by simp, ?_, ?_⟩
    · intro j x hx
      rw [List.getElem?_map] at hx
      cases hj : (List.range (l.length * u.size))[j]? with
      | none => rw [hj] at hx; cases hx
      | some k =>
        rw [hj] at hx
        obtain ⟨hlt, he⟩ := List.getElem?_eq_some_iff.1 hj
        simp at hlt he
        subst he
        simp only [Option.map_some, Option.some.injEq] at hx
        subst hx
        exact ⟨_, rfl, by rw [addr_add]; exact hc _ hlt⟩
    · intro i x hx j pv hj
      have hi : i < l.length := (List.getElem?_eq_some_iff.1 hx).1
      have hjl : j < u.size := by rw [← u.size_cells x]; exact (List.getElem?_eq_some_iff.1 hj).1
      refine ⟨f (i * u.size + j), ?_, hr i x hx j pv hj⟩
      rw [List.getElem?_map, List.getElem?_range]
      · rfl
      · have := Nat.mul_le_mul_right u.size hi
        rw [Nat.succ_mul] at this; omega

/-- a row of cells that were just laid -/
theorem rel_laid {u : U} {l : List u.D} {cs : List Value} {rest : Array Value} {T : Nat} {cap : Nat} (o : Bool) (inv : Inv g w) (hl : cs.length = l.length * u.size) (hcap : l.length ≤ cap) (ho : o = true → cap = l.length)
    (hr : ∀ (i : Nat) (x : u.D), l[i]? = some x → ∀ (j : Nat) (pv : PVal), (u.cells x)[j]? = some pv → ∃ y, cs[i * u.size + j]? = some y ∧ RelV g w pv y) :
    RelV (g.lay w.heap.size) (w.alloc (.cells (cs.toArray ++ rest) T)) (.slice u o l) (.slice (some ⟨w.heap.size, 0, none⟩) l.length cap) := by
  have hle := (Ext.lay inv (.cells (cs.toArray ++ rest) T)).le inv
  refine .slice u o l w.heap.size 0 cap (fun j => cs.getD j Go.undef) hcap ho (by simp [Gh.lay, upd_same]) (fun j hj => ?_) (fun i x hx j pv hj => ?_)
  · have hj' : j < cs.length := by omega
    rw [Nat.zero_add, World.cell?_alloc_new]
    rw [Array.getElem?_append_left (by simpa using hj')]
    simp [List.getD, hj']
  · obtain ⟨y, hy, ry⟩ := hr i x hx j pv hj
    have : cs.getD (i * u.size + j) Go.undef = y := by simp [List.getD, hy]
    rw [this]; exact ry.mono hle

theorem grownCap_ge (w : World) (need old : Nat) (e : Nat) : need ≤ grownCap w need old e := by simp [grownCap, Question.cut]

theorem cells_append {u : U} {l m : List u.D} {cs ds : List Value} (hc : cs.length = l.length * u.size)
    (hr : ∀ (i : Nat) (x : u.D), l[i]? = some x → ∀ (j : Nat) (pv : PVal), (u.cells x)[j]? = some pv → ∃ y, cs[i * u.size + j]? = some y ∧ RelV g w pv y)
    (hs : ∀ (i : Nat) (x : u.D), m[i]? = some x → ∀ (j : Nat) (pv : PVal), (u.cells x)[j]? = some pv → ∃ y, ds[i * u.size + j]? = some y ∧ RelV g w pv y) :
    ∀ (i : Nat) (x : u.D), (l ++ m)[i]? = some x → ∀ (j : Nat) (pv : PVal), (u.cells x)[j]? = some pv → ∃ y, (cs ++ ds)[i * u.size + j]? = some y ∧ RelV g w pv y := by
  intro i x hx j pv hj
  rw [List.getElem?_append] at hx
  split at hx
  · obtain ⟨y, hy, ry⟩ := hr i x hx j pv hj
    refine ⟨y, ?_, ry⟩
    rw [List.getElem?_append_left (List.getElem?_eq_some_iff.1 hy).1]; exact hy
  · rename_i hlt
    obtain ⟨y, hy, ry⟩ := hs _ x hx j pv hj
    refine ⟨y, ?_, ry⟩
    have e : i * u.size + j = cs.length + ((i - l.length) * u.size + j) := by
      rw [hc]
      have : i = l.length + (i - l.length) := by omega
      rw [this, Nat.add_mul]
      have : l.length + (i - l.length) - l.length = i - l.length := by omega
      rw [this]; omega
    rw [e, List.getElem?_append_right (by omega), Nat.add_sub_cancel_left]
    exact hy

/-- what an append leaves -/
structure AppPost (g : Gh) (w : World) (g' : Gh) (w' : World) : Prop where
  ext : Ext g w g' w'
  inv : Inv g' w'
  beta : g'.β = g.β
  keep : ∀ blk, blk < w.heap.size → w'.heap[blk]? = w.heap[blk]?

theorem sound_append_at {u : U} {e : Nat} {i : TypeInfo} {z : Value} (inv : Inv g w) (hi : C.P.info? e = some i) (hsz : i.size = u.size) (hb : i.bytes ≤ 4096) (hz : i.zero = some z) {t ty : Nat} (ht : C.P.underlying t = some (.slice e))
    {l m : List u.D} {a b : Option Addr} {cap c : Nat} {cs ds : List Value} (hcap : cap = l.length) (hlim : l.length + m.length ≤ appLim)
    (hcl : cs.length = l.length * u.size) (hca : ∀ j x, cs[j]? = some x → ∃ ad, a = some ad ∧ w.cell? (ad.add j) = some x)
    (hdl : ds.length = m.length * u.size) (hda : ∀ j x, ds[j]? = some x → ∃ ad, b = some ad ∧ w.cell? (ad.add j) = some x) (ha : a = none → l = []) (hbn : b = none → m = [])
    (hr : ∀ (i : Nat) (x : u.D), l[i]? = some x → ∀ (j : Nat) (pv : PVal), (u.cells x)[j]? = some pv → ∃ y, cs[i * u.size + j]? = some y ∧ RelV g w pv y)
    (hs : ∀ (i : Nat) (x : u.D), m[i]? = some x → ∀ (j : Nat) (pv : PVal), (u.cells x)[j]? = some pv → ∃ y, ds[i * u.size + j]? = some y ∧ RelV g w pv y) (hm : 0 < m.length) :
    ∃ v g' w', (Builtin.append_ #[t, t] ty #[.slice a l.length cap, .slice b m.length c]).run C.P w = .ok v w' ∧ AppPost g w g' w' ∧ RelV g' w' (.slice u false (l ++ m)) v := by
  have hlim' : l.length + m.length ≤ 4294967296 := hlim
  have hrel := cells_append (g := g) (w := w) hcl hr hs
  have hfit : (l.length + m.length) * i.bytes ≤ 140737488355328 := by
    have := Nat.mul_le_mul hlim' hb; omega
  have hinv : Inv g w.drew := inv.drew
  have hrel' : ∀ (i : Nat) (x : u.D), (l ++ m)[i]? = some x → ∀ (j : Nat) (pv : PVal), (u.cells x)[j]? = some pv → ∃ y, (cs ++ ds)[i * u.size + j]? = some y ∧ RelV g w.drew pv y :=
    fun i x hx j pv hj => let ⟨y, hy, ry⟩ := hrel i x hx j pv hj; ⟨y, hy, ry.mono ((Ext.drew g w).le inv)⟩
  have done : ∀ (rest : Array Value) (k : Nat), l.length + m.length ≤ k → AppPost g w (g.lay w.heap.size) (w.drew.alloc (.cells ((cs ++ ds).toArray ++ rest) e)) ∧
      RelV (g.lay w.heap.size) (w.drew.alloc (.cells ((cs ++ ds).toArray ++ rest) e)) (.slice u false (l ++ m)) (.slice (some ⟨w.heap.size, 0, none⟩) (l.length + m.length) k) := by
    intro rest k hk
    refine ⟨⟨(Ext.drew g w).trans (Ext.lay hinv _), hinv.lay _, rfl, fun blk hblk => heap_push_lt w.drew _ blk hblk⟩, ?_⟩
    have := rel_laid (g := g) (w := w.drew) (u := u) (l := l ++ m) (cs := cs ++ ds) (rest := rest) (T := e) (cap := k) false hinv (by simp [hcl, hdl, Nat.add_mul]) (by simpa using hk) (by simp) hrel'
    simpa using this
  cases b with
  | none => rw [hbn rfl] at hm; simp at hm
  | some bd =>
    have hda' : ∀ j v, ds[j]? = some v → w.cell? (bd.add j) = some v := fun j v hv => by obtain ⟨ad, e1, e2⟩ := hda j v hv; cases e1; exact e2
    cases a with
    | none =>
      have hl0 := ha rfl
      subst hl0
      subst hcap
      simp only [List.length_nil, Nat.zero_mul] at hcl
      have hcs : cs = [] := List.eq_nil_of_length_eq_zero hcl
      subst hcs
      have hrun := run_append_nil (P := C.P) w t ty e i z ht hi hz bd m.length c ds (by rw [hdl, hsz]) hda' hm (by omega) (by have := Nat.mul_le_mul (show m.length ≤ 4294967296 by simpa using hlim') hb; omega)
      have := done (Builtin.zeroCells z.cells (grownCap w m.length 0 e - m.length)) (grownCap w m.length 0 e) (by simpa using grownCap_ge w m.length 0 e)
      simp only [List.length_nil, Nat.zero_add, List.nil_append] at this ⊢
      exact ⟨_, _, _, hrun, this.1, this.2⟩
    | some ad =>
      have hca' : ∀ j v, cs[j]? = some v → w.cell? (ad.add j) = some v := fun j v hv => by obtain ⟨x, e1, e2⟩ := hca j v hv; cases e1; exact e2
      subst hcap
      have hrun := run_append_grow (P := C.P) w t ty e i z ht hi hz ad l.length l.length cs (by rw [hcl, hsz]) hca' bd m.length c ds (by rw [hdl, hsz]) hda' (by omega) (by omega) (growslice_fits (by omega) hfit)
      have := done (Builtin.zeroCells z.cells (grownCap w (l.length + m.length) l.length e - (l.length + m.length))) (grownCap w (l.length + m.length) l.length e) (grownCap_ge w _ _ e)
      rw [show (cs.toArray ++ ds.toArray) = (cs ++ ds).toArray from by simp] at hrun
      exact ⟨_, _, _, hrun, this.1, this.2⟩

end Go.Im

namespace Go.Im
variable {C : Cfg} {g : Gh} {w : World}

theorem defd_ne {p : PVal} (h : defd p = true) : p ≠ .undef := by rintro rfl; cases h

/-! ### build -/
theorem fold_set : ∀ (l : List Value) (k off : Nat) (cells : Array Value), off + k + l.length ≤ cells.size →
    ((l.zipIdx k).foldl (fun cs p => cs.setIfInBounds (off + p.2) p.1) cells).toList = cells.toList.take (off + k) ++ l ++ cells.toList.drop (off + k + l.length)
  | [], k, off, cells, _ => by simp
  | v :: l, k, off, cells, h => by
    simp only [List.length_cons] at h
    rw [List.zipIdx_cons, List.foldl_cons, fold_set l (k + 1) off _ (by simp; omega)]
    have e := list_seg_step cells.toList (off + k) v l (by simp; omega)
    simpa [Array.toList_setIfInBounds, Nat.add_assoc] using e

theorem fill_one (cells vs : Array Value) (off : Nat) (h : off + vs.size ≤ cells.size) :
    (vs.zipIdx.foldl (fun cs (p : Value × Nat) => cs.setIfInBounds (off + p.2) p.1) cells).toList = cells.toList.take off ++ vs.toList ++ cells.toList.drop (off + vs.size) := by
  have := fold_set vs.toList 0 off cells (by simpa using h)
  simp only [Nat.add_zero, Array.length_toList] at this
  rw [← this, ← Array.foldl_toList]
  simp

/-- parts, one by one -/
inductive RelP (g : Gh) (w : World) : List (Nat × PVal) → List (Nat × Value) → Prop
  | nil : RelP g w [] []
  | cons (i : Nat) (p : PVal) (v : Value) (ps : List (Nat × PVal)) (vs : List (Nat × Value)) (h : RelV g w p v) (r : RelP g w ps vs) : RelP g w ((i, p) :: ps) ((i, v) :: vs)

theorem relP_map {rd : Operand → PVal} {ev : Operand → Value} : ∀ (l : List (Nat × Operand)), (∀ x ∈ l, RelV g w (rd x.2) (ev x.2)) → RelP g w (l.map fun p => (p.1, rd p.2)) (l.map fun p => (p.1, ev p.2))
  | [], _ => .nil
  | x :: l, h => .cons _ _ _ _ _ (h x (by simp)) (relP_map l fun y hy => h y (by simp [hy]))

theorem sound_fill (place : Nat → Option (Nat × Nat)) : ∀ (ps : List (Nat × PVal)) (vs : List (Nat × Value)) (cs : List PVal) (cells : Array Value), RelP g w ps vs → RelL g w cs cells.toList →
    (buildFill place cs ps).2 = true → ∃ c, Instr.fill place cells vs = some c ∧ RelL g w (buildFill place cs ps).1 c.toList
  | [], vs, cs, cells, r, h, _ => by cases r; exact ⟨cells, rfl, h⟩
  | (i, p) :: ps, vs, cs, cells, r, h, hok => by
    cases r with
    | cons _ _ v _ vs hv r =>
      unfold buildFill at hok ⊢
      cases hp : place i with
      | none => rw [hp] at hok; cases hok
      | some os =>
        obtain ⟨off, size⟩ := os
        rw [hp] at hok
        simp only at hok ⊢
        cases h1 : defd p <;> (try (rw [h1] at hok; cases hok; done))
        cases h2 : Nat.beq p.cells.length size <;> (try (rw [h1, h2] at hok; cases hok; done))
        cases h3 : Nat.ble (off + size) cs.length <;> (try (rw [h1, h2, h3] at hok; cases hok; done))
        rw [h1, h2, h3] at hok
        simp only at hok ⊢
        have e2 : p.cells.length = size := Nat.eq_of_beq_eq_true h2
        have e3 : off + size ≤ cs.length := Nat.le_of_ble_eq_true h3
        have rc := hv.cells (defd_ne h1)
        have hvs : v.cells.size = size := by have := rc.1; simp at this; omega
        have hcz : cells.size = cs.length := by have := h.1; simp at this; omega
        have hfo := fill_one cells v.cells off (by omega)
        have hrel : RelL g w (splice cs off p.cells) (v.cells.zipIdx.foldl (fun cs (p : Value × Nat) => cs.setIfInBounds (off + p.2) p.1) cells).toList := by
          rw [hfo, splice_eq cs off p.cells (by omega)]
          have : off + v.cells.size = off + p.cells.length := by omega
          rw [this]
          exact relL_append (relL_append (relL_take off h) rc) (relL_drop _ h)
        obtain ⟨c, hc, hr⟩ := sound_fill place ps vs _ _ r hrel hok
        refine ⟨c, ?_, hr⟩
        simp only [Instr.fill, hp]
        rw [if_neg (by simp [hvs]; omega)]
        exact hc

theorem zeroLeaf_rel (v : Value) : RelV g w (zeroLeaf v) v := by
  unfold zeroLeaf
  split
  · exact .bool _
  · exact .int _ _
  · rename_i s
    have : RelV g w (.str s.data.toList) (.string ⟨s.data.toList.toArray⟩) := .str _
    simpa using this
  · exact .nilp
  · exact .nils
  · exact .nilf
  · exact .nili
  · exact .undef _
theorem zeroLeaf_relL (vs : List Value) : RelL g w (vs.map zeroLeaf) vs :=
  ⟨by simp, fun j pv hj => by
    rw [List.getElem?_map] at hj
    cases hv : vs[j]? with
    | none => rw [hv] at hj; cases hj
    | some v => rw [hv] at hj; simp at hj; subst hj; exact ⟨v, rfl, zeroLeaf_rel v⟩⟩

theorem zeroCells_spec {t : Nat} {z : List PVal} (h : zeroCells C t = some z) : ∃ i v, C.P.info? t = some i ∧ i.zero = some v ∧ z = v.cells.toList.map zeroLeaf := by
  unfold zeroCells at h
  cases hi : C.P.info? t with
  | none => rw [hi] at h; cases h
  | some i =>
    rw [hi] at h
    simp only [Option.bind_some] at h
    cases hz : i.zero with
    | none => rw [hz] at h; cases h
    | some v => rw [hz] at h; exact ⟨i, v, rfl, hz, (Option.some.inj h).symm⟩
theorem run_zeroValue {t : Nat} {i : TypeInfo} {v : Value} (hi : C.P.info? t = some i) (hz : i.zero = some v) (w : World) : (zeroValue t).run C.P w = .ok v w := by
  simp [zeroValue, run_typeInfo hi, hz]

theorem run_places (w : World) : ∀ (fs : List Field), (∀ f ∈ fs, ∃ i, C.P.info? f.type = some i) →
    (fs.mapM fun f => (do pure (f.offset, ← sizeOf f.type) : Sem (Nat × Nat))).run C.P w = .ok (fs.map fun f => (f.offset, C.P.cellsOf f.type)) w
  | [], _ => rfl
  | f :: fs, h => by
    obtain ⟨i, hi⟩ := h f (by simp)
    have ih := run_places w fs (fun x hx => h x (by simp [hx]))
    rw [List.mapM_cons]
    simp only [Sem.run_bind, run_sizeOf hi, Result.andThen_ok, Sem.run_pure, ih, List.map_cons]

theorem sound_build {t : Nat} {ps : List (Nat × PVal)} {parts : Array (Nat × Value)} (r : RelP g w ps parts.toList) (hok : (evBuild C t ps).2 = true) :
    ∃ v, (Instr.build t parts).run C.P w = .ok v w ∧ RelV g w (evBuild C t ps).1 v := by
  unfold evBuild at hok ⊢
  split at hok
  · rename_i fs z hu hz
    obtain ⟨i, v, hi, hv, rfl⟩ := zeroCells_spec hz
    simp only at hok ⊢
    have hall : (fs.toList.all fun f => (C.P.info? f.type).isSome) = true := by
      cases hq : (fs.toList.all fun f => (C.P.info? f.type).isSome) with
      | true => rfl
      | false => rw [hq] at hok; cases hok
    rw [hall] at hok
    have hfs : ∀ f ∈ fs, ∃ i, C.P.info? f.type = some i := fun f hf => Option.isSome_iff_exists.1 (List.all_eq_true.1 hall f (Array.mem_toList_iff.2 hf))
    obtain ⟨c, hc, hr⟩ := sound_fill (g := g) (w := w) (fldPlace C fs) ps parts.toList (v.cells.toList.map zeroLeaf) v.cells r (zeroLeaf_relL _) hok
    refine ⟨.agg c, ?_, by have := relV_agg_of hr; simpa using this⟩
    have hpl := run_places (C := C) w fs.toList (fun f hf => hfs f (Array.mem_toList_iff.1 hf))
    have hpl' : (fs.mapM fun f => (do pure (f.offset, ← sizeOf f.type) : Sem (Nat × Nat))).run C.P w = .ok (fs.map fun f => (f.offset, C.P.cellsOf f.type)) w := by
      have e : (fs.mapM fun f => (do pure (f.offset, ← sizeOf f.type) : Sem (Nat × Nat))) = (fs.toList.mapM fun f => (do pure (f.offset, ← sizeOf f.type) : Sem (Nat × Nat))) >>= fun l => pure l.toArray := by
        rw [Array.mapM_eq_mapM_toList]; rfl
      rw [e, Sem.run_bind, hpl]
      simp only [Result.andThen_ok, Sem.run_pure]
      congr 1
      apply Array.toList_inj.1; simp
    simp only [Instr.build, Sem.run_bind, run_zeroValue hi hv, Result.andThen_ok, run_underlying' hu, hpl']
    have e2 : (fun (i : Nat) => (fs.map fun f => (f.offset, C.P.cellsOf f.type))[i]?) = fldPlace C fs := by
      funext i
      unfold fldPlace
      rw [Array.getElem?_map]
      cases fs[i]? <;> rfl
    rw [e2, hc]
    rfl
  · rename_i n e z hu hz
    obtain ⟨i, v, hi, hv, rfl⟩ := zeroCells_spec hz
    simp only at hok ⊢
    have hie' : (C.P.info? e).isSome = true := by
      cases hq : (C.P.info? e).isSome with
      | true => rfl
      | false => rw [hq] at hok; cases hok
    rw [hie'] at hok
    obtain ⟨ie, hie⟩ := Option.isSome_iff_exists.1 hie'
    obtain ⟨c, hc, hr⟩ := sound_fill (g := g) (w := w) (fun i => some (i * C.P.cellsOf e, C.P.cellsOf e)) ps parts.toList (v.cells.toList.map zeroLeaf) v.cells r (zeroLeaf_relL _) hok
    refine ⟨.agg c, ?_, by have := relV_agg_of hr; simpa using this⟩
    simp only [Instr.build, Sem.run_bind, run_zeroValue hi hv, Result.andThen_ok, run_underlying' hu, run_sizeOf hie]
    rw [hc]
    rfl
  · cases hok

end Go.Im

namespace Go.Im
variable {C : Cfg} {g : Gh} {w : World}

/-! ### slices written out -/
theorem decBytes_rel {p : PVal} {v : Value} {l : List Int} (h : decBytes p = some l) (r : RelV g w p v) : RelV g w (.slice .u8 false l) v := by
  unfold decBytes at h
  split at h
  · simp only [Option.some.injEq] at h; subst h
    exact r.le (.slice _ _ _ _ (by simp))
  · simp only [Option.some.injEq] at h; subst h
    exact r.le (.nils _ _)
  · cases h

theorem relL_of_cons {p : PVal} {ps : List PVal} {vs : List Value} (r : RelL g w (p :: ps) vs) : ∃ v vs', vs = v :: vs' ∧ RelV g w p v ∧ RelL g w ps vs' := by
  cases vs with
  | nil => have := r.1; simp at this
  | cons v vs =>
    obtain ⟨v', hv', rv⟩ := r.2 0 p rfl
    simp at hv'; subst hv'
    exact ⟨v, vs, rfl, rv, ⟨by have := r.1; simpa using this, fun j pv hj => by
      obtain ⟨y, hy, hr⟩ := r.2 (j + 1) pv (by simpa using hj)
      exact ⟨y, by simpa using hy, hr⟩⟩⟩

theorem relL_head {p p' : PVal} {ps : List PVal} {vs : List Value} (r : RelL g w (p :: ps) vs) (h : ∀ v, RelV g w p v → RelV g w p' v) : RelL g w (p' :: ps) vs := by
  obtain ⟨v, vs', rfl, rv, rs⟩ := relL_of_cons r
  exact relL_cons (h v rv) rs
theorem relL_tail {p : PVal} {ps ps' : List PVal} {vs : List Value} (r : RelL g w (p :: ps) vs) (h : ∀ vs, RelL g w ps vs → RelL g w ps' vs) : RelL g w (p :: ps') vs := by
  obtain ⟨v, vs', rfl, rv, rs⟩ := relL_of_cons r
  exact relL_cons rv (h vs' rs)

theorem dec_rel_u8 {cs : List PVal} {x : U.D .u8} {vs : List Value} (h : dec_u8 cs = some x) (r : RelL g w cs vs) : RelL g w (U.cells .u8 x) vs := by
  unfold dec_u8 at h
  split at h
  · simp only [Option.some.injEq] at h; subst h; exact r
  · cases h
theorem dec_rel_i64 {cs : List PVal} {x : U.D .i64} {vs : List Value} (h : dec_i64 cs = some x) (r : RelL g w cs vs) : RelL g w (U.cells .i64 x) vs := by
  unfold dec_i64 at h
  split at h
  · simp only [Option.some.injEq] at h; subst h; exact r
  · cases h
theorem dec_rel_str {cs : List PVal} {x : U.D .str} {vs : List Value} (h : dec_str cs = some x) (r : RelL g w cs vs) : RelL g w (U.cells .str x) vs := by
  unfold dec_str at h
  split at h
  · simp only [Option.some.injEq] at h; subst h; exact r
  · cases h
theorem dec_rel_entry {cs : List PVal} {x : U.D .entry} {vs : List Value} (h : dec_entry cs = some x) (r : RelL g w cs vs) : RelL g w (U.cells .entry x) vs := by
  unfold dec_entry at h
  split at h
  · simp only [Option.some.injEq] at h; subst h; exact r
  · cases h
theorem dec_rel_span {cs : List PVal} {x : U.D .span} {vs : List Value} (h : dec_span cs = some x) (r : RelL g w cs vs) : RelL g w (U.cells .span x) vs := by
  unfold dec_span at h
  split at h
  · simp only [Option.some.injEq] at h; subst h; exact r
  · cases h
theorem dec_rel_block {cs : List PVal} {x : U.D .block} {vs : List Value} (h : dec_block cs = some x) (r : RelL g w cs vs) : RelL g w (U.cells .block x) vs := by
  unfold dec_block at h
  split at h
  · simp only [Option.some.injEq] at h; subst h; exact r
  · cases h
theorem dec_rel_recd {cs : List PVal} {x : U.D .recd} {vs : List Value} (h : dec_recd cs = some x) (r : RelL g w cs vs) : RelL g w (U.cells .recd x) vs := by
  unfold dec_recd at h
  split at h
  · simp only [Option.some.injEq] at h; subst h; exact r
  · cases h
theorem dec_rel_timer {cs : List PVal} {x : U.D .timer} {vs : List Value} (h : dec_timer cs = some x) (r : RelL g w cs vs) : RelL g w (U.cells .timer x) vs := by
  unfold dec_timer at h
  split at h
  · simp only [Option.some.injEq] at h; subst h; exact r
  · cases h
theorem dec_rel_sample {cs : List PVal} {x : U.D .sample} {vs : List Value} (h : dec_sample cs = some x) (r : RelL g w cs vs) : RelL g w (U.cells .sample x) vs := by
  unfold dec_sample at h
  split at h
  · simp only [Option.some.injEq] at h; subst h; exact r
  · cases h
theorem dec_rel_bytes {cs : List PVal} {x : U.D .bytes} {vs : List Value} (h : dec_bytes cs = some x) (r : RelL g w cs vs) : RelL g w (U.cells .bytes x) vs := by
  unfold dec_bytes at h
  split at h
  · split at h
    · rename_i l hl
      simp only [Option.some.injEq] at h; subst h
      exact relL_head r fun v rv => decBytes_rel hl rv
    · cases h
  · cases h
theorem dec_rel_piece {cs : List PVal} {x : U.D .piece} {vs : List Value} (h : dec_piece cs = some x) (r : RelL g w cs vs) : RelL g w (U.cells .piece x) vs := by
  unfold dec_piece at h
  split at h
  · split at h
    · rename_i l hl
      simp only [Option.some.injEq] at h; subst h
      exact relL_tail r fun vs rs => relL_head rs fun v rv => decBytes_rel hl rv
    · cases h
  · cases h
theorem dec_rel_datagram {cs : List PVal} {x : U.D .datagram} {vs : List Value} (h : dec_datagram cs = some x) (r : RelL g w cs vs) : RelL g w (U.cells .datagram x) vs := by
  unfold dec_datagram at h
  split at h
  · split at h
    · rename_i l hl
      simp only [Option.some.injEq] at h; subst h
      exact relL_head r fun v rv => decBytes_rel hl rv
    · cases h
  · cases h
theorem dec_rel_sent {cs : List PVal} {x : U.D .sent} {vs : List Value} (h : dec_sent cs = some x) (r : RelL g w cs vs) : RelL g w (U.cells .sent x) vs := by
  unfold dec_sent at h
  split at h
  · split at h
    · rename_i l hl
      simp only [Option.some.injEq] at h; subst h
      exact relL_head r fun v rv => decBytes_rel hl rv
    · cases h
  · cases h
theorem dec_rel_event {cs : List PVal} {x : U.D .event} {vs : List Value} (h : dec_event cs = some x) (r : RelL g w cs vs) : RelL g w (U.cells .event x) vs := by
  unfold dec_event at h
  split at h
  · split at h
    · rename_i l hl
      simp only [Option.some.injEq] at h; subst h
      exact relL_tail r fun vs rs => relL_tail rs fun vs rs => relL_tail rs fun vs rs => relL_head rs fun v rv => decBytes_rel hl rv
    · cases h
  · cases h
theorem dec_rel_inn {cs : List PVal} {x : U.D .inn} {vs : List Value} (h : dec_inn cs = some x) (r : RelL g w cs vs) : RelL g w (U.cells .inn x) vs := by
  unfold dec_inn at h
  split at h
  · split at h
    · rename_i l hl
      simp only [Option.some.injEq] at h; subst h
      exact relL_tail r fun vs rs => relL_tail rs fun vs rs => relL_head rs fun v rv => decBytes_rel hl rv
    · cases h
  · cases h
theorem dec_rel {u : U} {cs : List PVal} {x : u.D} {vs : List Value} (h : u.dec cs = some x) (r : RelL g w cs vs) : RelL g w (u.cells x) vs := by
  cases u
  · exact dec_rel_u8 h r
  · exact dec_rel_i64 h r
  · exact dec_rel_str h r
  · exact dec_rel_bytes h r
  · exact dec_rel_entry h r
  · exact dec_rel_span h r
  · exact dec_rel_piece h r
  · exact dec_rel_block h r
  · exact dec_rel_recd h r
  · exact dec_rel_timer h r
  · exact dec_rel_datagram h r
  · exact dec_rel_sent h r
  · exact dec_rel_event h r
  · exact dec_rel_inn h r
  · exact dec_rel_sample h r

/-- what a row of parts holds at a place -/
def findVal : Nat → List (Nat × Value) → Option Value
  | _, [] => none
  | i, (j, v) :: r => match Nat.beq i j with | true => some v | false => findVal i r

theorem findPart_rel : ∀ {ps : List (Nat × PVal)} {vs : List (Nat × Value)}, RelP g w ps vs → ∀ i,
    (∀ p, findPart i ps = some p → ∃ v, findVal i vs = some v ∧ RelV g w p v) ∧ (findPart i ps = none → findVal i vs = none)
  | _, _, .nil, i => ⟨fun p h => (by cases h), fun _ => rfl⟩
  | _, _, .cons j p v ps vs h r, i => by
    simp only [findPart, findVal]
    cases hb : Nat.beq i j with
    | true => exact ⟨fun q hq => by simp at hq; subst hq; exact ⟨v, rfl, h⟩, fun hq => by cases hq⟩
    | false => exact findPart_rel r i

theorem fill_row (s : Nat) : ∀ (ps : List (Nat × PVal)) (vs : List (Nat × Value)) (n : Nat) (cells : Array Value), RelP g w ps vs → partsFit s n ps = true → cells.size = n * s →
    ∃ c, Instr.fill (fun i => some (i * s, s)) cells vs = some c ∧ c.size = n * s ∧
      ∀ i j, i < n → j < s → c[i * s + j]? = (match findVal i vs with | some v => v.cells[j]? | none => cells[i * s + j]?)
  | [], vs, n, cells, r, _, hs => by cases r; exact ⟨cells, rfl, hs, fun i j _ _ => rfl⟩
  | (k, p) :: ps, vs, n, cells, r, hf, hs => by
    cases r with
    | cons _ _ v _ vs hv r =>
      unfold partsFit at hf
      cases h1 : Nat.blt k n <;> (try (rw [h1] at hf; cases hf; done))
      cases h2 : findPart k ps <;> (try (rw [h1, h2] at hf; cases hf; done))
      cases h3 : defd p <;> (try (rw [h1, h2, h3] at hf; cases hf; done))
      cases h4 : Nat.beq p.cells.length s <;> (try (rw [h1, h2, h3, h4] at hf; cases hf; done))
      rw [h1, h2, h3, h4] at hf
      simp only at hf
      have hk : k < n := Nat.le_of_ble_eq_true h1
      have e4 : p.cells.length = s := Nat.eq_of_beq_eq_true h4
      have rc := hv.cells (defd_ne h3)
      have hvs : v.cells.size = s := by have := rc.1; simp at this; omega
      have hks : k * s + s ≤ n * s := by have := Nat.mul_le_mul_right s hk; rw [Nat.succ_mul] at this; exact this
      have hfo := fill_one cells v.cells (k * s) (by omega)
      have hsz : (v.cells.zipIdx.foldl (fun cs (p : Value × Nat) => cs.setIfInBounds (k * s + p.2) p.1) cells).size = n * s := by
        rw [← Array.length_toList, hfo]
        simp only [List.length_append, List.length_take, List.length_drop, Array.length_toList]; omega
      obtain ⟨c, hc, hcs, hget⟩ := fill_row s ps vs n _ r hf hsz
      refine ⟨c, ?_, hcs, fun i j hi hj => ?_⟩
      · simp only [Instr.fill]
        rw [if_neg (by simp [hvs]; omega)]
        exact hc
      · rw [hget i j hi hj]
        simp only [findVal]
        have hnone := (findPart_rel r k).2 h2
        cases hb : Nat.beq i k with
        | true =>
          obtain rfl := Nat.eq_of_beq_eq_true hb
          rw [hnone]
          simp only
          rw [← Array.getElem?_toList, hfo, List.append_assoc, List.getElem?_append_right (by simp; omega)]
          have : i * s + j - (List.take (i * s) cells.toList).length = j := by simp; omega
          rw [this, List.getElem?_append_left (by simp; omega), Array.getElem?_toList]
        | false =>
          have hne : i ≠ k := fun e => by rw [e] at hb; simp at hb
          cases findVal i vs with
          | some x => rfl
          | none =>
            simp only
            rw [← Array.getElem?_toList, hfo, ← Array.getElem?_toList (xs := cells)]
            rcases Nat.lt_or_gt_of_ne hne with hlt | hgt
            · have h5 : i * s + s ≤ k * s := by have := Nat.mul_le_mul_right s hlt; rw [Nat.succ_mul] at this; exact this
              rw [List.append_assoc, List.getElem?_append_left (by simp; omega), List.getElem?_take, if_pos (by omega)]
            · have h5 : k * s + s ≤ i * s := by have := Nat.mul_le_mul_right s hgt; rw [Nat.succ_mul] at this; exact this
              rw [List.getElem?_append_right (by simp; omega), List.getElem?_drop]
              congr 1
              simp; omega

theorem buildElems_get {u : U} {z : List PVal} {ps : List (Nat × PVal)} : ∀ (n k : Nat) (l : List u.D), buildElems u z ps n k = some l → l.length = n ∧
    ∀ i x, l[i]? = some x → u.dec (match findPart (k + i) ps with | some v => v.cells | none => z) = some x
  | 0, k, l, h => by simp [buildElems] at h; subst h; simp
  | n + 1, k, l, h => by
    simp only [buildElems] at h
    split at h <;> (try (cases h; done))
    rename_i x l' hx hl'
    simp only [Option.some.injEq] at h; subst h
    have ih := buildElems_get n (k + 1) l' hl'
    refine ⟨by simp [ih.1], fun i y hy => ?_⟩
    cases i with
    | zero => simp at hy; subst hy; exact hx
    | succ i => have := ih.2 i y (by simpa using hy); rw [Nat.add_right_comm, Nat.add_assoc] at this; exact this

theorem sound_buildSlice (hE : EOk C) (inv : Inv g w) {t len : Nat} {ps : List (Nat × PVal)} {parts : Array (Nat × Value)} (r : RelP g w ps parts.toList) (hok : (evBuildSlice C t len ps).2 = true) :
    ∃ v g' w', (Instr.buildSlice t len parts).run C.P w = .ok v w' ∧ AppPost g w g' w' ∧ RelV g' w' (evBuildSlice C t len ps).1 v := by
  unfold evBuildSlice at hok ⊢
  cases hu : C.P.underlying t with
  | none => rw [hu] at hok; cases hok
  | some d =>
    rw [hu] at hok
    cases d <;> (try (simp only at hok; cases hok; done))
    rename_i e
    simp only at hok ⊢
    cases he : C.E e with
    | none => rw [he] at hok; simp only at hok; cases hok
    | some u =>
      cases hz : zeroCells C e with
      | none => rw [he, hz] at hok; simp only at hok; cases hok
      | some z =>
        rw [he, hz] at hok
        simp only at hok ⊢
        cases hl : buildElems u z ps len 0 with
        | none => rw [hl] at hok; simp only at hok; cases hok
        | some l =>
          rw [hl] at hok
          simp only at hok ⊢
          cases hp : partsFit u.size len ps with
          | false => rw [hp] at hok; cases hok
          | true =>
            rw [hp] at hok
            simp only at hok
            have hle : len * u.size ≤ 16777216 := Nat.le_of_ble_eq_true hok
            obtain ⟨inf, zv, hi, hs, _, _, _, hz0, hzs⟩ := hE.at_ e u he
            obtain ⟨i2, v2, hi2, hv2, rfl⟩ := zeroCells_spec hz
            rw [hi] at hi2; cases hi2
            rw [hz0] at hv2; cases hv2
            have hsz : C.P.cellsOf e = u.size := by rw [cellsOf_info hi, hs]
            obtain ⟨hlen, hget⟩ := buildElems_get len 0 l hl
            -- the zero cells
            have hrun : ∃ zc : Array Value, zc.size = len * u.size ∧ (∀ i j, i < len → j < u.size → zc[i * u.size + j]? = zv.cells[j]?) ∧
                (Instr.buildSlice t len parts).run C.P w = ((match Instr.fill (fun i => some (i * u.size, u.size)) zc parts.toList with
                  | some cells => (do pure (.slice (some (← newRow e cells)) len len) : Sem Value)
                  | none => stuck "buildSlice: a part of the wrong size")).run C.P w := by
              by_cases h0 : len * u.size = 0
              · refine ⟨(Array.range (len * u.size)).map ((#[] : Array Value)[· % (#[] : Array Value).size]!), by simp, fun i j hi' _ => ?_, ?_⟩
                · have : 0 < len * u.size := Nat.mul_pos (by omega) u.size_pos
                  omega
                · simp only [Instr.buildSlice, Sem.run_bind, run_underlying' hu, Result.andThen_ok, run_sizeOf hi, hsz]
                  rw [if_neg (by omega)]
                  simp only [h0, if_true, Sem.run_bind, Sem.run_pure, Result.andThen_ok]
                  generalize Instr.fill _ _ _ = q
                  cases q <;> rfl
              · refine ⟨(Array.range (len * u.size)).map (zv.cells[· % zv.cells.size]!), by simp, fun i j hi' hj => ?_, ?_⟩
                · have h5 : i * u.size + j < len * u.size := by have := Nat.mul_le_mul_right u.size hi'; rw [Nat.succ_mul] at this; omega
                  have h6 : (i * u.size + j) % zv.cells.size = j := by rw [hzs, Nat.mul_comm, Nat.mul_add_mod, Nat.mod_eq_of_lt hj]
                  simp [h5, h6]
                  rw [getElem!_pos zv.cells j (by omega), Array.getElem?_eq_getElem (by omega)]
                · simp only [Instr.buildSlice, Sem.run_bind, run_underlying' hu, Result.andThen_ok, run_sizeOf hi, hsz]
                  rw [if_neg (by omega)]
                  simp only [h0, if_false, Sem.run_bind, run_zeroValue hi hz0, Sem.run_pure, Result.andThen_ok]
                  generalize Instr.fill _ _ _ = q
                  cases q <;> rfl
            obtain ⟨zc, hzc, hzg, hrun⟩ := hrun
            obtain ⟨c, hc, hcs, hcg⟩ := fill_row u.size ps parts.toList len zc r hp hzc
            rw [hc] at hrun
            have hrel : ∀ (i : Nat) (x : u.D), l[i]? = some x → ∀ (j : Nat) (pv : PVal), (u.cells x)[j]? = some pv → ∃ y, c.toList[i * u.size + j]? = some y ∧ RelV g w pv y := by
              intro i x hx j pv hj
              have hilt : i < len := by rw [← hlen]; exact (List.getElem?_eq_some_iff.1 hx).1
              have hjlt : j < u.size := by rw [← u.size_cells x]; exact (List.getElem?_eq_some_iff.1 hj).1
              have hd := hget i x hx
              rw [Nat.zero_add] at hd
              rw [Array.getElem?_toList, hcg i j hilt hjlt]
              cases hfp : findPart i ps with
              | some q =>
                obtain ⟨v, hv, rv⟩ := (findPart_rel r i).1 q hfp
                rw [hfp] at hd; simp only at hd
                rw [hv]; simp only
                have hq : q ≠ .undef := by
                  rintro rfl
                  cases u <;> cases hd
                obtain ⟨y, hy, ry⟩ := (dec_rel hd (rv.cells hq)).2 j pv hj
                exact ⟨y, by simpa using hy, ry⟩
              | none =>
                rw [(findPart_rel r i).2 hfp]; simp only
                rw [hfp] at hd; simp only at hd
                obtain ⟨y, hy, ry⟩ := (dec_rel hd (zeroLeaf_relL (g := g) (w := w) zv.cells.toList)).2 j pv hj
                rw [hzg i j hilt hjlt]
                exact ⟨y, by simpa using hy, ry⟩
            refine ⟨.slice (some ⟨w.heap.size, 0, none⟩) len len, g.lay w.heap.size, w.alloc (.cells c e), ?_, ⟨Ext.lay inv _, inv.lay _, rfl, fun blk hblk => heap_push_lt w _ blk hblk⟩, ?_⟩
            · rw [hrun]; rfl
            · have := rel_laid (g := g) (w := w) (u := u) (l := l) (cs := c.toList) (rest := #[]) (T := e) (cap := len) true inv (by simp [hcs, hlen]) (by omega) (fun _ => hlen.symm) hrel
              simpa [hlen] using this

end Go.Im
