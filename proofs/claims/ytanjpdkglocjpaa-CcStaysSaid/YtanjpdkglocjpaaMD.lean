/-
  A region: its operations one by one, each under its guards.
-/
import Derived.Test.YtanjpdkglocjpaaMC
import Derived.Orders

namespace Go.Im
variable {C : Cfg} {g : Gh} {w : World}

theorem andB_true {a c : Bool} (h : andB a c = true) : a = true ∧ c = true := by cases c <;> simp_all [andB]
theorem impB_true {x c : Bool} (h : impB x c = true) (hx : x = true) : c = true := by cases c <;> simp_all [impB]

/-- what guards ask, one by one -/
theorem ctxVal_mem {tm : Nat → PVal} : ∀ {gs : List (Nat × Bool)}, ctxVal tm gs = true → ∀ d x, (d, x) ∈ gs → asB (tm d) = x
  | [], _, d, x, h => by cases h
  | (e, y) :: r, hc, d, x, h => by
    unfold ctxVal at hc
    cases hr : ctxVal tm r with
    | false => rw [hr] at hc; cases hc
    | true =>
      rw [hr] at hc
      cases List.mem_cons.1 h with
      | inl e' => cases e'; cases y <;> simpa using hc
      | inr e' => exact ctxVal_mem hr d x e'
theorem ctxVal_of {tm : Nat → PVal} : ∀ {gs : List (Nat × Bool)}, (∀ d x, (d, x) ∈ gs → asB (tm d) = x) → ctxVal tm gs = true
  | [], _ => rfl
  | (e, y) :: r, h => by
    unfold ctxVal
    rw [ctxVal_of fun d x hm => h d x (List.mem_cons_of_mem _ hm)]
    have := h e y (by simp)
    cases y <;> simp [this]
theorem memG_spec {d : Nat} {x : Bool} : ∀ {l : List (Nat × Bool)}, memG (d, x) l = true → (d, x) ∈ l
  | [], h => by cases h
  | (e, y) :: r, h => by
    unfold memG at h
    split at h
    · rename_i h1 h2
      obtain rfl := Nat.eq_of_beq_eq_true h1
      have : x = y := by simpa using h2
      subst this; simp
    · exact List.mem_cons_of_mem _ (memG_spec h)
theorem subG_spec : ∀ {a b : List (Nat × Bool)}, subG a b = true → ∀ q ∈ a, q ∈ b
  | [], _, _, q, h => by cases h
  | (d, x) :: r, b, h, q, hq => by
    unfold subG at h
    split at h
    · rename_i hm
      cases List.mem_cons.1 hq with
      | inl e => subst e; exact memG_spec hm
      | inr e => exact subG_spec h q e
    · cases h
theorem ctxVal_sub {tm : Nat → PVal} {a b : List (Nat × Bool)} (h : subG a b = true) (hb : ctxVal tm b = true) : ctxVal tm a = true :=
  ctxVal_of fun d x hm => ctxVal_mem hb d x (subG_spec h _ hm)
theorem ctxVal_congr {tm tm' : Nat → PVal} : ∀ {gs : List (Nat × Bool)}, (∀ d x, (d, x) ∈ gs → tm' d = tm d) → ctxVal tm' gs = ctxVal tm gs
  | [], _ => rfl
  | (e, y) :: r, h => by
    unfold ctxVal
    rw [ctxVal_congr (gs := r) fun d x hm => h d x (List.mem_cons_of_mem _ hm), h e y (by simp)]
theorem eqG_spec : ∀ {a b : List (Nat × Bool)}, eqG a b = true → a = b
  | [], [], _ => rfl
  | [], _ :: _, h => by cases h
  | _ :: _, [], h => by cases h
  | (d, x) :: r, (e, y) :: s, h => by
    unfold eqG at h
    split at h
    · rename_i h1 h2
      obtain rfl := Nat.eq_of_beq_eq_true h1
      have : x = y := by simpa using h2
      subst this
      rw [eqG_spec h]
    · cases h

/-- in the midst of a region: 'D' have been carried out -/
structure RelR (g : Gh) (w : World) (nb0 : Nat) (ops : List Oper) (D : Nat → Prop) (r : RSt) (a : Act) : Prop where
  inv : Inv g w
  bx : RelB g w r.s.bx
  size : a.tmps.size = r.s.n
  defers : a.defers = []
  free : ∀ b, nb0 ≤ b → g.β b ≠ none → ∃ i, D i ∧ nb0 + stride * i ≤ b ∧ b < nb0 + stride * i + stride
  tm : ∀ t, gFind t r.env = none → RelV g w (r.s.tm t) (a.tmps.getD t Go.undef)
  gtm : ∀ t gs, gFind t r.env = some gs → (ctxVal r.s.tm gs = true → RelV g w (r.s.tm t) (a.tmps.getD t Go.undef)) ∧ (ctxVal r.s.tm gs = false → a.tmps.getD t Go.undef = Go.undef)
  key : ∀ t gs, gFind t r.env = some gs → ∃ (j : Nat) (o : Oper), D j ∧ ops[j]? = some o ∧ o.dst = some t
  gsl : ∀ t gs d x, gFind t r.env = some gs → (d, x) ∈ gs → ∃ (j : Nat) (o : Oper), D j ∧ ops[j]? = some o ∧ o.dst = some d

theorem relArg {tm : Nat → PVal} {a : Act} (x : Operand) (h : ∀ t, x = .tmp t → RelV g w (tm t) (a.tmps.getD t Go.undef)) : RelV g w (argOf tm x) (a.eval x) := by
  cases x with
  | tmp t => exact h t rfl
  | const v => exact zeroLeaf_rel v
  | global n => exact .undef _
  | func f => exact .func f [] #[] rfl (by simp)

theorem mem_tmpsOf {o : Op} {t : Nat} (h : Operand.tmp t ∈ o.operands.toList) : t ∈ tmpsOf o := List.mem_filterMap.2 ⟨_, h, rfl⟩

theorem under_rel {nb0 : Nat} {ops : List Oper} {D : Nat → Prop} {r : RSt} {a : Act} (R : RelR g w nb0 ops D r a) {here : List (Nat × Bool)} (hc : ctxVal r.s.tm here = true) {t : Nat} (h : okUnder r.env here t = true) :
    RelV g w (r.s.tm t) (a.tmps.getD t Go.undef) := by
  unfold okUnder at h
  cases hf : gFind t r.env with
  | none => exact R.tm t hf
  | some gs => rw [hf] at h; exact (R.gtm t gs hf).1 (ctxVal_sub h hc)

theorem under_arg {nb0 : Nat} {ops : List Oper} {D : Nat → Prop} {r : RSt} {a : Act} (R : RelR g w nb0 ops D r a) {here : List (Nat × Bool)} (hc : ctxVal r.s.tm here = true) {x : Operand} (h : okUnderX r.env here x = true) :
    RelV g w (argOf r.s.tm x) (a.eval x) := by
  refine relArg x fun t ht => ?_
  subst ht
  exact under_rel R hc h

theorem reads_of {nb0 : Nat} {ops : List Oper} {D : Nat → Prop} {r : RSt} {a : Act} (R : RelR g w nb0 ops D r a) {here : List (Nat × Bool)} (hc : ctxVal r.s.tm here = true) {o : Op} (h : guardsOk r.env here o = true) :
    Reads g w (argOf r.s.tm) a.eval o := by
  cases o
  case pick c x y =>
    simp only [guardsOk] at h
    obtain ⟨h1, h2⟩ := Bool.and_eq_true_iff.1 h
    refine ⟨under_arg R hc h1, fun t ht => ?_⟩
    cases c with
    | tmp s =>
      obtain ⟨h3, h4⟩ := Bool.and_eq_true_iff.1 h2
      simp only [argOf] at ht
      cases t
      · refine under_arg R (here := (s, false) :: here) ?_ h4
        unfold ctxVal; rw [hc, ht]; rfl
      · refine under_arg R (here := (s, true) :: here) ?_ h3
        unfold ctxVal; rw [hc, ht]; rfl
    | _ =>
      obtain ⟨h3, h4⟩ := Bool.and_eq_true_iff.1 h2
      cases t
      · exact under_arg R hc h4
      · exact under_arg R hc h3
  all_goals
    simp only [guardsOk] at h
    intro x hx
    refine relArg x fun t ht => ?_
    subst ht
    exact under_rel R hc (List.all_eq_true.1 h t (mem_tmpsOf hx))

theorem put_get {a : Act} {dst : Option Nat} {v : Value} {n : Nat} (hs : a.tmps.size = n) (hd : dstOk n dst = true) (t : Nat) :
    (a.put dst v).tmps.getD t Go.undef = (if dst = some t then v else a.tmps.getD t Go.undef) := by
  cases dst with
  | none => simp [Act.put]
  | some d =>
    have hlt : d < a.tmps.size := by rw [hs]; exact Nat.le_of_ble_eq_true hd
    simp only [Act.put, Option.some.injEq]
    by_cases e : d = t
    · subst e; simp [hlt]
    · simp [e, Array.getElem?_setIfInBounds_ne e]
theorem putTm_get {tm : Nat → PVal} {dst : Option Nat} {v : PVal} (t : Nat) : putTm tm dst v t = if dst = some t then v else tm t := by
  cases dst with
  | none => simp [putTm]
  | some d =>
    by_cases e : d = t
    · subst e; simp [putTm, upd_same]
    · simp [putTm, e, upd_other _ _ _ _ (Ne.symm e)]

/-- merged boxes stand where the way that was taken stands -/
theorem relB_merge_taken {d : List (Nat × Nat)} {b0 b1 : Boxes} (hk : Kept d b0 b1) (r : RelB g w b1) : RelB g w (mergeBoxes true d b0 b1) where
  at_ := fun b cs hb => by
    simp only [mergeBoxes, mergeBox] at hb
    split at hb <;> (try (cases hb; done))
    rename_i c0 c1 c2 h0 h1 h2
    split at hb <;> (try (cases hb; done))
    rename_i e1 e2
    simp only [Option.some.injEq] at hb
    subst hb
    rw [h0] at h2; cases h2
    have e1 := Nat.eq_of_beq_eq_true e1
    obtain ⟨blk, cells, T, q1, q2, q3⟩ := r.at_ b c1 h1
    refine ⟨blk, cells, T, q1, q2, ?_⟩
    have hkk := hk b c0 c1 h0 h1 e1
    -- cell by cell
    have key : ∀ (k : Nat) (x0 x1 x2 : List PVal) (vs : List Value), x0.length = x1.length → x0.length = x2.length → RelL g w x1 vs → (∀ j, memP b (k + j) d = false → x1[j]? = x0[j]?) → RelL g w (mergeCells true d b k x0 x1 x2) vs := by
      intro k x0
      induction x0 generalizing k with
      | nil =>
        intro x1 x2 vs h1 h2 rl _
        have : x1 = [] := List.eq_nil_of_length_eq_zero h1.symm
        subst this; simpa [mergeCells] using rl
      | cons y0 x0 ih =>
        intro x1 x2 vs h1 h2 rl hj
        cases x1 with
        | nil => simp at h1
        | cons y1 x1 =>
          cases x2 with
          | nil => simp at h2
          | cons y2 x2 =>
            obtain ⟨v, vs', rfl, rv, rs⟩ := relL_of_cons rl
            simp only [mergeCells]
            refine relL_cons ?_ (ih (k + 1) x1 x2 vs' (by simpa using h1) (by simpa using h2) rs fun j hm => ?_)
            · cases hm : memP b k d with
              | true => exact rv.le (mergeLeaf_le true y1 y2)
              | false =>
                have := hj 0 (by simpa using hm)
                simp at this; subst this; exact rv
            · have := hj (j + 1) (by rw [show k + (j + 1) = k + 1 + j from by omega]; exact hm)
              simpa using this
    exact key 0 c0 c1 c0 cells.toList e1 rfl q3 fun j hm => hkk j (by simpa using hm)
theorem relB_merge_left {d : List (Nat × Nat)} {b0 b1 : Boxes} (r : RelB g w b0) : RelB g w (mergeBoxes false d b0 b1) where
  at_ := fun b cs hb => by
    simp only [mergeBoxes, mergeBox] at hb
    split at hb <;> (try (cases hb; done))
    rename_i c0 c1 c2 h0 h1 h2
    split at hb <;> (try (cases hb; done))
    rename_i e1 e2
    simp only [Option.some.injEq] at hb
    subst hb
    rw [h0] at h2; cases h2
    have e1 := Nat.eq_of_beq_eq_true e1
    obtain ⟨blk, cells, T, q1, q2, q3⟩ := r.at_ b c0 h0
    refine ⟨blk, cells, T, q1, q2, ?_⟩
    have key : ∀ (k : Nat) (x0 x1 : List PVal) (vs : List Value), x0.length = x1.length → RelL g w x0 vs → RelL g w (mergeCells false d b k x0 x1 x0) vs := by
      intro k x0
      induction x0 generalizing k with
      | nil => intro x1 vs h1 rl; simpa [mergeCells] using rl
      | cons y0 x0 ih =>
        intro x1 vs h1 rl
        cases x1 with
        | nil => simp at h1
        | cons y1 x1 =>
          obtain ⟨v, vs', rfl, rv, rs⟩ := relL_of_cons rl
          simp only [mergeCells]
          refine relL_cons ?_ (ih (k + 1) x1 vs' (by simpa using h1) rs)
          cases memP b k d with
          | true => exact rv.le (mergeLeaf_le false y1 y0)
          | false => exact rv
    exact key 0 c0 c1 cells.toList e1 q3

end Go.Im

namespace Go.Im
variable {C : Cfg} {g : Gh} {w : World}

def asBO : Option Value → Option Bool
  | some (.bool b) => some b
  | _ => none

/-- an operation's guard, as the model asks it -/
theorem wanted_iff {nb0 : Nat} {opsA : Array Oper} {D : Nat → Prop} {r : RSt} {a : Act} (R : RelR g w nb0 opsA.toList D r a) {o : Oper} {gs : List (Nat × Bool)} (hg : chain opsA.toList opsA.toList.length o.guard = gs) (hne : gs ≠ [])
    (h1 : okGuard r.env gs = true) (h2 : ctxB r.s.tm gs = true) : Region.wanted o (yielded opsA a.tmps) = ctxVal r.s.tm gs := by
  cases hgd : o.guard with
  | none =>
    rw [hgd] at hg
    have : gs = [] := by rw [← hg]; cases opsA.toList.length <;> rfl
    exact absurd this hne
  | some q =>
    obtain ⟨j, wt⟩ := q
    rw [hgd] at hg
    have hlen : 0 < opsA.toList.length := by
      cases hl : opsA.toList.length with
      | zero => rw [hl] at hg; exact absurd hg.symm (by simpa [chain] using hne)
      | succ n => omega
    obtain ⟨n, hn⟩ : ∃ n, opsA.toList.length = n + 1 := ⟨opsA.toList.length - 1, by omega⟩
    rw [hn] at hg
    simp only [chain] at hg
    cases hoj : opsA.toList[j]? with
    | none => rw [hoj] at hg; exact absurd hg.symm hne
    | some oj =>
      rw [hoj] at hg
      simp only at hg
      cases hdj : oj.dst with
      | none => rw [hdj] at hg; exact absurd hg.symm hne
      | some d =>
        rw [hdj] at hg
        simp only at hg
        subst hg
        unfold ctxB at h2
        cases hB : isB (r.s.tm d) with
        | false => rw [hB] at h2; cases h2
        | true =>
          obtain ⟨b, hb⟩ : ∃ b, r.s.tm d = .bool b := by
            cases ht : r.s.tm d <;> rw [ht] at hB <;> first | exact ⟨_, rfl⟩ | cases hB
          have hy : yielded opsA a.tmps j = asBO (a.tmps[d]?) := by
            have : opsA[j]? = some oj := by rw [← Array.getElem?_toList]; exact hoj
            simp only [yielded, this, hdj, Option.bind_some]
            cases a.tmps[d]? with
            | none => rfl
            | some v => cases v <;> rfl
          have hgetD : ∀ v, a.tmps.getD d Go.undef = v → v ≠ Go.undef → a.tmps[d]? = some v := by
            intro v hv hnu
            by_cases hlt : d < a.tmps.size
            · rw [Array.getElem?_eq_getElem hlt]; simp [Array.getD, hlt] at hv; rw [hv]
            · simp [Array.getD, hlt] at hv; exact absurd hv.symm hnu
          simp only [Region.wanted, hgd]
          rw [hy]
          simp only [okGuard] at h1
          cases hf : gFind d r.env with
          | none =>
            rw [hf] at h1
            have hr0 := eqG_spec h1
            have rv := R.tm d hf
            rw [hb] at rv
            have hv : a.tmps.getD d Go.undef = .bool b := by cases hq : a.tmps.getD d Go.undef <;> rw [hq] at rv <;> cases rv; rfl
            rw [hgetD _ hv (by simp [Go.undef])]
            unfold ctxVal
            rw [hr0]
            simp only [ctxVal, hb, asB]
            cases wt <;> cases b <;> rfl
          | some gs' =>
            rw [hf] at h1
            have hr0 := eqG_spec h1
            have hgt := R.gtm d gs' hf
            unfold ctxVal
            rw [← hr0]
            cases hc : ctxVal r.s.tm gs' with
            | true =>
              have rv := hgt.1 hc
              rw [hb] at rv
              have hv : a.tmps.getD d Go.undef = .bool b := by cases hq : a.tmps.getD d Go.undef <;> rw [hq] at rv <;> cases rv; rfl
              rw [hgetD _ hv (by simp [Go.undef])]
              simp only [hb, asB]
              cases wt <;> cases b <;> rfl
            | false =>
              have hu := hgt.2 hc
              have : asBO (a.tmps[d]?) = none := by
                by_cases hlt : d < a.tmps.size
                · have : a.tmps[d]? = some Go.undef := by rw [Array.getElem?_eq_getElem hlt]; simp [Array.getD, hlt] at hu; rw [hu]
                  rw [this]; rfl
                · rw [Array.getElem?_eq_none (Nat.le_of_not_lt hlt)]; rfl
              rw [this]; cases wt <;> rfl

theorem callEff_pure {f : Nat} {args : List PVal} {m lim new : Nat} {bx : Boxes} {dirty : List (Nat × Nat)} (hm : m < 2) : (callEff C f args m lim new bx dirty).bx = bx := by
  unfold callEff
  simp only
  split <;> (try rfl)
  split <;> (try rfl)
  split
  · split <;> rfl
  · rfl
  · rename_i h0 h1
    exfalso
    rcases m with _ | _ | m
    · exact h0 rfl
    · exact h1 rfl
    · omega

theorem evOp_bx_cls {o : Oper} {rd : Operand → PVal} {lim new : Nat} {bx : Boxes} {dirty : List (Nat × Nat)} (hle : ∀ f, C.mode f ≤ 2) (hrd : ∀ q, rd (.func q) = .func q []) (h : opCls C o.op ≠ 2) (hn : isNew o.op = false) : (evOp C rd lim new bx dirty o).bx = bx := by
  obtain ⟨dst, op, ty, pos, after, guard⟩ := o
  cases op <;> (try (cases hn; done)) <;> (try (exact absurd rfl h)) <;> (try (simp only [evOp]; done)) <;> (try rfl)
  case pick c a b => simp only [evOp]; cases rd c <;> rfl
  case load t a =>
    simp only [evOp]
    cases rd a <;> (try rfl)
    rename_i b off
    simp only
    cases Nat.blt b lim <;> (try rfl)
    cases bx b <;> rfl
  case nilCheck x => simp only [evOp]; cases rd x <;> rfl
  case fieldAddr s x f => simp only [evOp]; cases fld C s f with
    | none => rfl
    | some q => cases rd x <;> rfl
  case field s x f => simp only [evOp]; cases fld C s f with
    | none => rfl
    | some q => cases rd x <;> rfl
  case extract x i => simp only [evOp]; cases rd x <;> rfl
  case makeFunc fn first cap => cases fn <;> cases hf : first.toList <;> simp only [evOp, hf]
  case call c =>
    obtain ⟨callee, args, argTypes⟩ := c
    cases callee with
    | invoke r m => exact absurd rfl h
    | builtin bb =>
      simp only [evOp]
      split <;> (try rfl)
      · split <;> rfl
      · rename_i he; cases he
    | value f =>
      cases f with
      | func q =>
        simp only [opCls] at h
        have hm : C.mode q < 2 := by have := hle q; omega
        simp only [evOp, hrd]
        exact callEff_pure hm
      | _ => exact absurd rfl h

/-- slots are written once -/
def Once (ops : List Oper) : Prop := ∀ (i j : Nat) (x y : Oper) (d : Nat), ops[i]? = some x → ops[j]? = some y → x.dst = some d → y.dst = some d → i = j

/-- the guards' slots have been written -/
def ChainIn (ops : List Oper) (D : Nat → Prop) (o : Oper) : Prop := ∀ d x, (d, x) ∈ chain ops ops.length o.guard → ∃ (j : Nat) (oj : Oper), D j ∧ ops[j]? = some oj ∧ oj.dst = some d

theorem chain_none (ops : List Oper) (n : Nat) : chain ops n none = [] := by cases n <;> rfl

theorem step_sim (hE : EOk C) (hG : GOk C) {nb0 lim i : Nat} {opsA : Array Oper} {D : Nat → Prop} {r : RSt} {a : Act} {o : Oper} {K : Act → World → Prop} {Q : Exit → Act → World → Prop}
    (R : RelR g w nb0 opsA.toList D r a) (hi : opsA.toList[i]? = some o) (hDi : ¬ D i) (honce : Once opsA.toList) (hch : ChainIn opsA.toList D o)
    (hok : (stepOp C lim nb0 opsA.toList i o r).s.ok = true)
    (hK : ∀ a' g' w', Ext g w g' w' → RelR g' w' nb0 opsA.toList (fun j => D j ∨ j = i) (stepOp C lim nb0 opsA.toList i o r) a' → K a' w') :
    if Region.wanted o (yielded opsA a.tmps) then o.wp C.P a w K Q else K (a.put o.dst Go.undef) w := by
  have hfree : ∀ r', r' < stride → g.β (nb0 + stride * i + r') = none := by
    intro r' hr'
    cases hq : g.β (nb0 + stride * i + r') with
    | none => rfl
    | some x =>
      obtain ⟨j, hj, h1, h2⟩ := R.free (nb0 + stride * i + r') (by omega) (by rw [hq]; simp)
      have : j = i := by
        have e1 : stride * j ≤ stride * i + r' := by omega
        have e2 : stride * i + r' < stride * j + stride := by omega
        simp only [stride] at *
        omega
      subst this; exact absurd hj hDi
  have hbfree : ∀ r', r' < stride → r.s.bx (nb0 + stride * i + r') = none := by
    intro r' hr'
    cases hq : r.s.bx (nb0 + stride * i + r') with
    | none => rfl
    | some cs => obtain ⟨blk, _, _, h1, _⟩ := R.bx.at_ _ _ hq; rw [hfree r' hr'] at h1; cases h1
  have hdkey : ∀ d, o.dst = some d → gFind d r.env = none := by
    intro d hd
    cases hq : gFind d r.env with
    | none => rfl
    | some gs =>
      obtain ⟨j, oj, hj, h1, h2⟩ := R.key d gs hq
      have := honce i j o oj d hi h1 hd h2
      subst this; exact absurd hj hDi
  have hdgs : ∀ d t gs x, o.dst = some d → gFind t r.env = some gs → (d, x) ∉ gs := by
    intro d t gs x hd hf hm
    obtain ⟨j, oj, hj, h1, h2⟩ := R.gsl t gs d x hf hm
    have := honce i j o oj d hi h1 hd h2
    subst this; exact absurd hj hDi
  unfold stepOp at hok hK
  simp only at hok hK
  generalize hgs : chain opsA.toList opsA.toList.length o.guard = gs at hok hK
  cases gs with
  | nil =>
    simp only at hok hK
    obtain ⟨hst, hcond⟩ := andB_true hok
    cases hgd : o.guard with
    | some q => rw [hgd] at hcond; cases hcond
    | none =>
    rw [hgd] at hcond
    cases h1 : guardsOk r.env [] o.op <;> (try (rw [h1] at hcond; cases hcond; done))
    cases h2 : dstOk r.s.n o.dst <;> (try (rw [h1, h2] at hcond; cases hcond; done))
    rw [h1, h2] at hcond
    simp only at hcond
    have hreads := reads_of R (here := []) rfl h1
    have hrun := sound_evOp (g := g) (w := w) hE hG (o := o) (lim := lim) (dirty := r.s.dirty) R.inv R.bx hfree hreads hcond
    have hw : Region.wanted o (yielded opsA a.tmps) = true := by simp [Region.wanted, hgd]
    rw [if_pos hw]
    refine opRun_upon hrun fun v w' ⟨g', hp⟩ => ?_
    refine hK _ g' w' hp.ext ⟨hp.inv, hp.bx, ?_, ?_, ?_, ?_, ?_, ?_, ?_⟩
    · cases hd : o.dst <;> simp [Act.put, R.size]
    · cases hd : o.dst <;> simp [Act.put, R.defers]
    · intro b hb hne
      by_cases hq : nb0 + stride * i ≤ b ∧ b < nb0 + stride * i + stride
      · exact ⟨i, .inr rfl, hq.1, hq.2⟩
      · rw [hp.beta b hq] at hne
        obtain ⟨j, hj, h5, h6⟩ := R.free b hb hne
        exact ⟨j, .inl hj, h5, h6⟩
    · intro t ht
      dsimp only; rw [put_get R.size h2, putTm_get]
      split
      · exact hp.val
      · exact (R.tm t ht).mono (hp.ext.le R.inv)
    · intro t gs ht
      have hne : o.dst ≠ some t := fun e => by rw [hdkey t e] at ht; cases ht
      have hcc : ctxVal (putTm r.s.tm o.dst (evOp C (argOf r.s.tm) lim (nb0 + stride * i) r.s.bx r.s.dirty o).val) gs = ctxVal r.s.tm gs :=
        ctxVal_congr fun d x hm => by rw [putTm_get, if_neg fun e => hdgs d t gs x e ht hm]
      dsimp only; rw [put_get R.size h2, putTm_get, if_neg hne, if_neg hne]
      simp only [hcc]
      exact ⟨fun hc => ((R.gtm t gs ht).1 hc).mono (hp.ext.le R.inv), (R.gtm t gs ht).2⟩
    · intro t gs ht
      obtain ⟨j, oj, hj, q⟩ := R.key t gs ht
      exact ⟨j, oj, .inl hj, q⟩
    · intro t gs d x ht hm
      obtain ⟨j, oj, hj, q⟩ := R.gsl t gs d x ht hm
      exact ⟨j, oj, .inl hj, q⟩
  | cons q0 qs =>
    simp only at hok hK
    obtain ⟨hst, hcond⟩ := andB_true hok
    cases h1 : guardsOk r.env (q0 :: qs) o.op <;> (try (rw [h1] at hcond; cases hcond; done))
    cases h2 : dstOk r.s.n o.dst <;> (try (rw [h1, h2] at hcond; cases hcond; done))
    cases h3 : okGuard r.env (q0 :: qs) <;> (try (rw [h1, h2, h3] at hcond; cases hcond; done))
    cases h4 : ctxB r.s.tm (q0 :: qs) <;> (try (rw [h1, h2, h3, h4] at hcond; cases hcond; done))
    cases h5 : isNew o.op <;> (try (rw [h1, h2, h3, h4, h5] at hcond; cases hcond; done))
    rw [h1, h2, h3, h4, h5] at hcond
    simp only at hcond
    have hw := wanted_iff R hgs (by simp) h3 h4
    -- what holds of the state behind it, whichever way
    have common : ∀ (v : Value) (g' : Gh) (w' : World), Ext g w g' w' → Inv g' w' →
        RelB g' w' (match opCls C o.op with | 2 => mergeBoxes (ctxVal r.s.tm (q0 :: qs)) (evOp C (argOf r.s.tm) lim (nb0 + stride * i) r.s.bx r.s.dirty o).dirty r.s.bx (evOp C (argOf r.s.tm) lim (nb0 + stride * i) r.s.bx r.s.dirty o).bx | _ => r.s.bx) →
        (ctxVal r.s.tm (q0 :: qs) = true → RelV g' w' (evOp C (argOf r.s.tm) lim (nb0 + stride * i) r.s.bx r.s.dirty o).val v) → (ctxVal r.s.tm (q0 :: qs) = false → v = Go.undef) →
        (∀ b, ¬ (nb0 + stride * i ≤ b ∧ b < nb0 + stride * i + stride) → g'.β b = g.β b) → K (a.put o.dst v) w' := by
      intro v g' w' hx hinv hb hv1 hv2 hbeta
      refine hK _ g' w' hx ⟨hinv, hb, ?_, ?_, ?_, ?_, ?_, ?_, ?_⟩
      · cases hd : o.dst <;> simp [Act.put, R.size]
      · cases hd : o.dst <;> simp [Act.put, R.defers]
      · intro b hb hne
        by_cases hq : nb0 + stride * i ≤ b ∧ b < nb0 + stride * i + stride
        · exact ⟨i, .inr rfl, hq.1, hq.2⟩
        · rw [hbeta b hq] at hne
          obtain ⟨j, hj, h5, h6⟩ := R.free b hb hne
          exact ⟨j, .inl hj, h5, h6⟩
      · intro t ht
        have hne : o.dst ≠ some t := fun e => by
          dsimp only at ht; rw [e] at ht
          simp only [gFind] at ht
          rw [show Nat.beq t t = true from by simp] at ht
          cases ht
        have ht' : gFind t r.env = none := by
          cases hd : o.dst with
          | none => dsimp only at ht; rw [hd] at ht; exact ht
          | some d =>
            dsimp only at ht; rw [hd] at ht
            simp only [gFind] at ht
            split at ht
            · cases ht
            · exact ht
        dsimp only; rw [put_get R.size h2, putTm_get, if_neg hne, if_neg hne]
        exact (R.tm t ht').mono (hx.le R.inv)
      · intro t gs ht
        -- the new slot, or an old one
        have hself : ∀ d x, o.dst = some d → (d, x) ∉ (q0 :: qs) := by
          intro d x hd hm
          obtain ⟨j, oj, hj, p1, p2⟩ := hch d x (by rw [hgs]; exact hm)
          have := honce i j o oj d hi p1 hd p2
          subst this; exact absurd hj hDi
        by_cases hne : o.dst = some t
        · rw [hne] at ht
          simp only [gFind] at ht
          rw [show Nat.beq t t = true from by simp] at ht
          simp only [Option.some.injEq] at ht
          subst ht
          have hcc : ctxVal (putTm r.s.tm o.dst (evOp C (argOf r.s.tm) lim (nb0 + stride * i) r.s.bx r.s.dirty o).val) (q0 :: qs) = ctxVal r.s.tm (q0 :: qs) :=
            ctxVal_congr fun d x hm => by rw [putTm_get, if_neg fun e => hself d x e hm]
          dsimp only; rw [put_get R.size h2, putTm_get, if_pos hne, if_pos hne]
          simp only [hcc]
          exact ⟨hv1, hv2⟩
        · have ht' : gFind t r.env = some gs := by
            cases hd : o.dst with
            | none => dsimp only at ht; rw [hd] at ht; exact ht
            | some d =>
              dsimp only at ht; rw [hd] at ht
              simp only [gFind] at ht
              split at ht
              · rename_i hbq
                have := Nat.eq_of_beq_eq_true hbq
                subst this; exact absurd hd hne
              · exact ht
          have hcc : ctxVal (putTm r.s.tm o.dst (evOp C (argOf r.s.tm) lim (nb0 + stride * i) r.s.bx r.s.dirty o).val) gs = ctxVal r.s.tm gs :=
            ctxVal_congr fun d x hm => by rw [putTm_get, if_neg fun e => hdgs d t gs x e ht' hm]
          dsimp only; rw [put_get R.size h2, putTm_get, if_neg hne, if_neg hne]
          simp only [hcc]
          exact ⟨fun hc => ((R.gtm t gs ht').1 hc).mono (hx.le R.inv), (R.gtm t gs ht').2⟩
      · intro t gs ht
        by_cases hne : o.dst = some t
        · exact ⟨i, o, .inr rfl, hi, hne⟩
        · have ht' : gFind t r.env = some gs := by
            cases hd : o.dst with
            | none => dsimp only at ht; rw [hd] at ht; exact ht
            | some d =>
              dsimp only at ht; rw [hd] at ht
              simp only [gFind] at ht
              split at ht
              · rename_i hbq
                have := Nat.eq_of_beq_eq_true hbq
                subst this; exact absurd hd hne
              · exact ht
          obtain ⟨j, oj, hj, q⟩ := R.key t gs ht'
          exact ⟨j, oj, .inl hj, q⟩
      · intro t gs d x ht hm
        by_cases hne : o.dst = some t
        · rw [hne] at ht
          simp only [gFind] at ht
          rw [show Nat.beq t t = true from by simp] at ht
          simp only [Option.some.injEq] at ht
          subst ht
          obtain ⟨j, oj, hj, q⟩ := hch d x (by rw [hgs]; exact hm)
          exact ⟨j, oj, .inl hj, q⟩
        · have ht' : gFind t r.env = some gs := by
            cases hd : o.dst with
            | none => dsimp only at ht; rw [hd] at ht; exact ht
            | some d =>
              dsimp only at ht; rw [hd] at ht
              simp only [gFind] at ht
              split at ht
              · rename_i hbq
                have := Nat.eq_of_beq_eq_true hbq
                subst this; exact absurd hd hne
              · exact ht
          obtain ⟨j, oj, hj, q⟩ := R.gsl t gs d x ht' hm
          exact ⟨j, oj, .inl hj, q⟩
    cases hx : ctxVal r.s.tm (q0 :: qs) with
    | true =>
      have hev := impB_true hcond hx
      rw [hx] at hw
      rw [if_pos hw]
      have hreads := reads_of R (here := q0 :: qs) hx h1
      have hrun := sound_evOp (g := g) (w := w) hE hG (o := o) (lim := lim) (dirty := r.s.dirty) R.inv R.bx hfree hreads hev
      refine opRun_upon hrun fun v w' ⟨g', hp⟩ => ?_
      refine common v g' w' hp.ext hp.inv ?_ (fun _ => hp.val) (fun h => by rw [hx] at h; cases h) hp.beta
      rw [hx]
      by_cases hcl : opCls C o.op = 2
      · rw [hcl]
        exact relB_merge_taken (evOp_kept h5 hbfree hev).1 hp.bx
      · have hsame := evOp_bx_cls (C := C) (lim := lim) (new := nb0 + stride * i) (bx := r.s.bx) (dirty := r.s.dirty) (rd := argOf r.s.tm) hG.le (fun q => rfl) hcl h5
        have hpb := hp.bx
        rw [hsame] at hpb
        split
        · rename_i e; exact absurd e hcl
        · exact hpb
    | false =>
      rw [hx] at hw
      rw [if_neg (by rw [hw]; simp)]
      refine common Go.undef g w (Ext.refl g w) R.inv ?_ (fun h => by rw [hx] at h; cases h) (fun _ => rfl) (fun _ _ => rfl)
      rw [hx]
      split
      · exact relB_merge_left R.bx
      · exact R.bx

end Go.Im

namespace Go.Im
variable {C : Cfg} {g : Gh} {w : World}

theorem stepOp_ok {lim nb0 i : Nat} {ops : List Oper} {o : Oper} {r : RSt} (h : (stepOp C lim nb0 ops i o r).s.ok = true) : r.s.ok = true := by
  unfold stepOp at h
  simp only at h
  split at h <;> exact (andB_true h).1
theorem goOps_ok {lim nb0 : Nat} {ops : List Oper} : ∀ (l : List Oper) (i : Nat) (r : RSt), (goOps C lim nb0 ops i l r).s.ok = true → r.s.ok = true
  | [], _, _, h => h
  | o :: l, i, r, h => stepOp_ok (goOps_ok l (i + 1) _ h)
theorem stepOp_nb {lim nb0 i : Nat} {ops : List Oper} {o : Oper} {r : RSt} : (stepOp C lim nb0 ops i o r).s.nb = r.s.nb ∧ (stepOp C lim nb0 ops i o r).s.n = r.s.n := by
  unfold stepOp
  simp only
  split <;> exact ⟨rfl, rfl⟩
theorem goOps_nb {lim nb0 : Nat} {ops : List Oper} : ∀ (l : List Oper) (i : Nat) (r : RSt), (goOps C lim nb0 ops i l r).s.nb = r.s.nb ∧ (goOps C lim nb0 ops i l r).s.n = r.s.n
  | [], _, _ => ⟨rfl, rfl⟩
  | o :: l, i, r => by
    have h : (goOps C lim nb0 ops (i + 1) l (stepOp C lim nb0 ops i o r)).s.nb = (stepOp C lim nb0 ops i o r).s.nb ∧ (goOps C lim nb0 ops (i + 1) l (stepOp C lim nb0 ops i o r)).s.n = (stepOp C lim nb0 ops i o r).s.n := goOps_nb l (i + 1) _
    have k := stepOp_nb (C := C) (lim := lim) (nb0 := nb0) (i := i) (ops := ops) (o := o) (r := r)
    exact ⟨h.1.trans k.1, h.2.trans k.2⟩

theorem distinctN_spec : ∀ (l : List Nat), distinctN l = true → l.Nodup
  | [], _ => List.nodup_nil
  | x :: r, h => by
    unfold distinctN at h
    cases hm : memN x r with
    | true => rw [hm] at h; cases h
    | false =>
      rw [hm] at h
      exact List.nodup_cons.2 ⟨(fun e => by rw [(memN_iff x r).2 e] at hm; cases hm), distinctN_spec r h⟩
theorem once_of {ops : List Oper} (h : distinctN (ops.filterMap (·.dst)) = true) : Once ops := by
  have hn := distinctN_spec _ h
  clear h
  induction ops with
  | nil => intro i j x y d hx; simp at hx
  | cons o ops ih =>
    have hn' : (ops.filterMap (·.dst)).Nodup := by
      cases hd : o.dst with
      | none => simpa [List.filterMap_cons, hd] using hn
      | some d => rw [List.filterMap_cons, hd] at hn; exact (List.nodup_cons.1 hn).2
    have hnot : ∀ (j : Nat) (y : Oper) (d : Nat), ops[j]? = some y → o.dst = some d → y.dst = some d → False := by
      intro j y d hy hd hyd
      rw [List.filterMap_cons, hd] at hn
      exact (List.nodup_cons.1 hn).1 (List.mem_filterMap.2 ⟨y, List.mem_of_getElem? hy, hyd⟩)
    intro i j x y d hx hy hdx hdy
    cases i with
    | zero =>
      cases j with
      | zero => rfl
      | succ j => simp at hx hy; subst hx; exact (hnot j y d hy hdx hdy).elim
    | succ i =>
      cases j with
      | zero => simp at hx hy; subst hy; exact (hnot i x d hx hdy hdx).elim
      | succ j => simp at hx hy; rw [ih hn' i j x y d hx hy hdx hdy]
theorem guardBack_spec : ∀ (l : List Oper) (k i : Nat) (o : Oper) (j : Nat) (b : Bool), guardBack k l = true → l[i]? = some o → o.guard = some (j, b) → j < k + i
  | [], k, i, o, j, b, _, h, _ => by simp at h
  | x :: l, k, 0, o, j, b, h, ho, hg => by
    simp at ho; subst ho
    unfold guardBack at h
    rw [hg] at h
    simp only at h
    split at h
    · rename_i hb; have : j < k := Nat.le_of_ble_eq_true hb; omega
    · cases h
  | x :: l, k, i + 1, o, j, b, h, ho, hg => by
    have h' : guardBack (k + 1) l = true := by
      unfold guardBack at h
      split at h
      · exact h
      · split at h
        · exact h
        · cases h
    have := guardBack_spec l (k + 1) i o j b h' (by simpa using ho) hg
    omega
theorem chain_back {ops : List Oper} (hb : ∀ (i : Nat) (o : Oper) (j : Nat) (b : Bool), ops[i]? = some o → o.guard = some (j, b) → j < i) :
    ∀ (n : Nat) (gd : Option (Nat × Bool)) (i : Nat), (∀ j b, gd = some (j, b) → j < i) → ∀ d x, (d, x) ∈ chain ops n gd → ∃ (j : Nat) (oj : Oper), j < i ∧ ops[j]? = some oj ∧ oj.dst = some d
  | 0, gd, i, _, d, x, h => by simp [chain] at h
  | n + 1, none, i, _, d, x, h => by simp [chain] at h
  | n + 1, some (j, b), i, hg, d, x, h => by
    simp only [chain] at h
    cases hoj : ops[j]? with
    | none => rw [hoj] at h; cases h
    | some oj =>
      rw [hoj] at h
      simp only at h
      cases hd : oj.dst with
      | none => rw [hd] at h; cases h
      | some e =>
        rw [hd] at h
        simp only at h
        have hji := hg j b rfl
        cases List.mem_cons.1 h with
        | inl he => cases he; exact ⟨j, oj, hji, hoj, hd⟩
        | inr hm =>
          obtain ⟨k, ok, h1, h2, h3⟩ := chain_back hb n oj.guard j (fun k b hk => hb j oj k b hoj hk) d x hm
          exact ⟨k, ok, by omega, h2, h3⟩

theorem RelR.start {st : St} {a : Act} {ops : List Oper} (inv : Inv g w) (rb : RelB g w st.bx) (tm : ∀ t, RelV g w (st.tm t) (a.tmps.getD t Go.undef)) (hs : a.tmps.size = st.n) (hd : a.defers = []) (hf : ∀ b, st.nb ≤ b → g.β b = none) :
    RelR g w st.nb ops (fun _ => False) ⟨st, []⟩ a :=
  ⟨inv, rb, hs, hd, fun b hb hn => absurd (hf b hb) hn, fun t _ => tm t, (fun t gs h => by cases h), (fun t gs h => by cases h), (fun t gs d x h => by cases h)⟩

theorem RelR.congr {nb0 : Nat} {ops : List Oper} {D D' : Nat → Prop} {r : RSt} {a : Act} (h : RelR g w nb0 ops D r a) (hD : ∀ i, D i → D' i) : RelR g w nb0 ops D' r a :=
  ⟨h.inv, h.bx, h.size, h.defers, fun b hb hn => let ⟨i, x, y⟩ := h.free b hb hn; ⟨i, hD i x, y⟩, h.tm, h.gtm, fun t gs hf => let ⟨j, o, x, y⟩ := h.key t gs hf; ⟨j, o, hD j x, y⟩,
    fun t gs d x hf hm => let ⟨j, o, p, q⟩ := h.gsl t gs d x hf hm; ⟨j, o, hD j p, q⟩⟩

/-- the operations in the order of the text -/
theorem ops_sim (hE : EOk C) (hG : GOk C) {nb0 lim : Nat} {opsA : Array Oper} (honce : Once opsA.toList) (hback : ∀ (i : Nat) (o : Oper) (j : Nat) (b : Bool), opsA.toList[i]? = some o → o.guard = some (j, b) → j < i) {Q : Exit → Act → World → Prop} :
    ∀ (rest : List Oper) (i : Nat) (g : Gh) (w : World) (r : RSt) (a : Act), opsA.toList.drop i = rest → RelR g w nb0 opsA.toList (fun j => j < i) r a → (goOps C lim nb0 opsA.toList i rest r).s.ok = true →
      (∀ a' g' w', Ext g w g' w' → RelR g' w' nb0 opsA.toList (fun j => j < i + rest.length) (goOps C lim nb0 opsA.toList i rest r) a' → Q .normal a' w') →
      wpOps C.P opsA Q (List.range' i rest.length) a w
  | [], i, g, w, r, a, _, R, _, hQ => hQ a g w (Ext.refl g w) R
  | o :: rest, i, g, w, r, a, hd, R, hok, hQ => by
    have hi : opsA.toList[i]? = some o := by
      have : (opsA.toList.drop i)[0]? = some o := by rw [hd]; rfl
      rwa [List.getElem?_drop, Nat.add_zero] at this
    have hi' : opsA[i]? = some o := by rw [← Array.getElem?_toList]; exact hi
    have hd' : opsA.toList.drop (i + 1) = rest := by
      have := congrArg (List.drop 1) hd
      rw [List.drop_drop] at this; simpa using this
    simp only [goOps] at hok hQ
    have hok1 := goOps_ok rest (i + 1) _ hok
    have hch : ChainIn opsA.toList (fun j => j < i) o := fun d x hm => chain_back hback _ o.guard i (fun j b h => hback i o j b hi h) d x hm
    have hstep := step_sim (K := wpOps C.P opsA Q (List.range' (i + 1) rest.length)) (Q := Q) hE hG R hi (Nat.lt_irrefl i) honce hch hok1 (fun a' g' w' hx R' => by
      refine ops_sim hE hG honce hback rest (i + 1) g' w' _ a' hd' (R'.congr fun j h => by omega) hok fun a'' g'' w'' hx' R'' => ?_
      refine hQ a'' g'' w'' (hx.trans hx') (R''.congr fun j h => ?_)
      simp only [List.length_cons]; omega)
    rw [List.length_cons, List.range'_succ]
    simp only [wpOps, hi']
    split
    · rename_i hw; rw [if_pos hw] at hstep; exact .inl hstep
    · rename_i hw; rw [if_neg hw] at hstep; exact hstep

/-- what stands between statements -/
structure RelSt (g : Gh) (w : World) (st : St) (a : Act) : Prop where
  inv : Inv g w
  bx : RelB g w st.bx
  tm : ∀ t, RelV g w (st.tm t) (a.tmps.getD t Go.undef)
  size : a.tmps.size = st.n
  defers : a.defers = []
  free : ∀ b, st.nb ≤ b → g.β b = none

theorem gFind_mem {t : Nat} {env : GEnv} (h : memN t (env.map (·.1)) = false) : gFind t env = none := by
  induction env with
  | nil => rfl
  | cons p env ih =>
    obtain ⟨s, gs⟩ := p
    simp only [List.map_cons, memN] at h
    simp only [gFind]
    cases hb : Nat.beq t s with
    | true => rw [hb] at h; cases h
    | false => rw [hb] at h; exact ih h

theorem relSt_end {nb0 : Nat} {opsA : Array Oper} {D : Nat → Prop} {r : RSt} {a : Act} {st' : St} (R : RelR g w nb0 opsA.toList D r a) (hD : ∀ i, D i → i < opsA.toList.length)
    (h1 : st'.tm = undefAll (r.env.map (·.1)) r.s.tm) (h2 : st'.bx = r.s.bx) (h3 : st'.nb = nb0 + stride * opsA.toList.length) (h4 : st'.n = r.s.n) : RelSt g w st' a where
  inv := R.inv
  bx := by rw [h2]; exact R.bx
  tm := fun t => by
    rw [h1]
    have key : undefAll (r.env.map (·.1)) r.s.tm t = (match memN t (r.env.map (·.1)) with | true => .undef | false => r.s.tm t) := by
      unfold undefAll
      cases r.env.map (·.1) <;> rfl
    rw [key]
    cases hm : memN t (r.env.map (·.1)) with
    | true => exact .undef _
    | false => exact R.tm t (gFind_mem hm)
  size := by rw [h4]; exact R.size
  defers := R.defers
  free := fun b hb => by
    rw [h3] at hb
    cases hq : g.β b with
    | none => rfl
    | some x =>
      obtain ⟨i, hi, h5, h6⟩ := R.free b (by omega) (by rw [hq]; simp)
      have := hD i hi
      simp only [stride] at *
      omega

theorem sound_region_seq (hE : EOk C) (hG : GOk C) {id : Nat} {opsA : Array Oper} {st : St} {a : Act} {Q : Exit → Act → World → Prop} (R : RelSt g w st a) (hok : (evRegion C opsA false st).ok = true)
    (hQ : ∀ a' g' w', Ext g w g' w' → RelSt g' w' (evRegion C opsA false st) a' → Q .normal a' w') : (Code.region id opsA false).wp C.P Q a w := by
  unfold evRegion at hok hQ
  simp only at hok hQ
  obtain ⟨hok1, hreg⟩ := andB_true hok
  cases hr : regOk opsA.toList with
  | false => rw [hr] at hreg; cases hreg
  | true =>
    unfold regOk at hr
    cases hd : distinctN (opsA.toList.filterMap (·.dst)) with
    | false => rw [hd] at hr; cases hr
    | true =>
      rw [hd] at hr
      simp only at hr
      have honce := once_of hd
      have hback : ∀ (i : Nat) (o : Oper) (j : Nat) (b : Bool), opsA.toList[i]? = some o → o.guard = some (j, b) → j < i := fun i o j b h1 h2 => by
        have := guardBack_spec opsA.toList 0 i o j b hr h1 h2; omega
      refine wp_region ?_
      have hsim := ops_sim (C := C) (lim := st.nb + stride * opsA.toList.length) (Q := Q) hE hG honce hback opsA.toList 0 g w ⟨st, []⟩ a (by simp) ((RelR.start R.inv R.bx R.tm R.size R.defers R.free).congr fun _ h => h.elim) hok1
        (fun a' g' w' hx R' => hQ a' g' w' hx (relSt_end R' (fun i h => by simpa using h) rfl rfl rfl (by
          have := (goOps_nb (C := C) (lim := st.nb + stride * opsA.toList.length) (nb0 := st.nb) (ops := opsA.toList) opsA.toList 0 ⟨st, []⟩).2
          exact this.symm)))
      rw [List.range_eq_range']
      simpa using hsim

end Go.Im

/-
  A region that draws its order: two operations that do not hang on each other may change places.
-/
namespace Go.Im
variable {C : Cfg}

/-! ### what an operation hangs on -/
theorem evOp_rd {o : Oper} {rd rd' : Operand → PVal} {lim new : Nat} {bx : Boxes} {dirty : List (Nat × Nat)} (h : ∀ x ∈ o.op.operands.toList, rd x = rd' x) : evOp C rd lim new bx dirty o = evOp C rd' lim new bx dirty o := by
  obtain ⟨dst, op, ty, pos, after, guard⟩ := o
  simp only at h
  have parts : ∀ ps : List (Nat × Operand), (∀ p ∈ ps, rd p.2 = rd' p.2) → (ps.map fun p => (p.1, rd p.2)) = (ps.map fun p => (p.1, rd' p.2)) := fun ps hp =>
    List.map_congr_left fun p hm => by rw [hp p hm]
  have opt : ∀ y : Option Operand, (∀ z, y = some z → rd z = rd' z) → y.map rd = y.map rd' := fun y hy => by cases y with
    | none => rfl
    | some z => simp [hy z rfl]
  cases op <;> (try rfl)
  case move x => simp only [evOp]; rw [h x (by simp [Op.operands])]
  case assign x => simp only [evOp]; rw [h x (by simp [Op.operands])]
  case pick c a b => simp only [evOp]; rw [h c (by simp [Op.operands]), h a (by simp [Op.operands]), h b (by simp [Op.operands])]
  case box t x => simp only [evOp]; rw [h x (by simp [Op.operands])]
  case build t ps => simp only [evOp]; rw [parts _ fun p hp => h p.2 (by simp [Op.operands]; exact ⟨p.1, by simpa using hp⟩)]
  case buildSlice t n ps => simp only [evOp]; rw [parts _ fun p hp => h p.2 (by simp [Op.operands]; exact ⟨p.1, by simpa using hp⟩)]
  case load t a => simp only [evOp]; rw [h a (by simp [Op.operands])]
  case store t a x => simp only [evOp]; rw [h a (by simp [Op.operands]), h x (by simp [Op.operands])]
  case nilCheck x => simp only [evOp]; rw [h x (by simp [Op.operands])]
  case binOp op t x y t2 => simp only [evOp]; rw [h x (by simp [Op.operands]), h y (by simp [Op.operands])]
  case unOp op t x => simp only [evOp]; rw [h x (by simp [Op.operands])]
  case convert s d x => simp only [evOp]; rw [h x (by simp [Op.operands])]
  case slice t x lo hi mx =>
    simp only [evOp]
    rw [h x (by simp [Op.operands]), opt lo fun z hz => h z (by simp [Op.operands, hz]), opt hi fun z hz => h z (by simp [Op.operands, hz]), opt mx fun z hz => h z (by simp [Op.operands, hz])]
  case fieldAddr s x f => simp only [evOp]; rw [h x (by simp [Op.operands])]
  case field s x f => simp only [evOp]; rw [h x (by simp [Op.operands])]
  case indexAddr t x i => simp only [evOp]; rw [h x (by simp [Op.operands]), h i (by simp [Op.operands])]
  case index t x i => simp only [evOp]; rw [h x (by simp [Op.operands]), h i (by simp [Op.operands])]
  case extract x i => simp only [evOp]; rw [h x (by simp [Op.operands])]
  case makeFunc fn first cap =>
    have hc : cap.toList.map rd = cap.toList.map rd' := List.map_congr_left fun x hx => h x (by simp [Op.operands]; exact .inr (by simpa using hx))
    cases fn <;> cases hf : first.toList <;> simp only [evOp, hf, hc]
  case call c =>
    obtain ⟨callee, args, argTypes⟩ := c
    have ha : ∀ x ∈ args.toList, rd x = rd' x := fun x hx => h x (by simp [Op.operands, Call.operands]; exact .inr (by simpa using hx))
    have hm : args.toList.map rd = args.toList.map rd' := List.map_congr_left ha
    cases callee with
    | invoke r m => rfl
    | value f =>
      have hf := h f (by simp [Op.operands, Call.operands])
      simp only [evOp]; rw [hf, hm]
    | builtin b =>
      simp only [evOp]
      cases hal : args.toList with
      | nil => cases b <;> rfl
      | cons x r =>
        have hx := ha x (by simp [hal])
        have hr : r.map rd = r.map rd' := List.map_congr_left fun y hy => ha y (by simp [hal, hy])
        cases b <;> (try rfl)
        all_goals
          cases r with
          | nil => cases argTypes.toList with
            | nil => simp only [hx, List.map_nil]
            | cons t ts => cases ts <;> simp only [hx, List.map_nil]
          | cons y r' =>
            have hy := ha y (by simp [hal])
            cases r' with
            | nil => cases argTypes.toList with
              | nil => simp only [hx, hy, List.map_nil, List.map_cons]
              | cons t ts => cases ts with
                | nil => simp only [hx, hy, List.map_nil, List.map_cons]
                | cons t2 ts2 => cases ts2 <;> simp only [hx, hy, List.map_nil, List.map_cons]
            | cons z r2 => simp only [hx, hr]

/-- the marks do not matter -/
theorem callEff_dirty {f : Nat} {args : List PVal} {p lim new : Nat} {bx : Boxes} {d d' : List (Nat × Nat)} :
    (callEff C f args p lim new bx d).val = (callEff C f args p lim new bx d').val ∧ (callEff C f args p lim new bx d).ok = (callEff C f args p lim new bx d').ok ∧ (callEff C f args p lim new bx d).bx = (callEff C f args p lim new bx d').bx := by
  unfold callEff
  simp only
  split
  · exact ⟨rfl, rfl, rfl⟩
  · split
    · exact ⟨rfl, rfl, rfl⟩
    · rename_i bs _ _ ok v bs' _
      generalize dedup (args.flatMap ptrs) [] = ids
      split
      · split <;> exact ⟨rfl, rfl, rfl⟩
      · exact ⟨rfl, rfl, rfl⟩
      · exact ⟨rfl, rfl, rfl⟩
theorem evOp_dirtyless {o : Oper} {rd : Operand → PVal} {lim new : Nat} {bx : Boxes} {d d' : List (Nat × Nat)} :
    (evOp C rd lim new bx d o).val = (evOp C rd lim new bx d' o).val ∧ (evOp C rd lim new bx d o).ok = (evOp C rd lim new bx d' o).ok ∧ (evOp C rd lim new bx d o).bx = (evOp C rd lim new bx d' o).bx := by
  obtain ⟨dst, op, ty, pos, after, guard⟩ := o
  cases op <;> (try exact ⟨rfl, rfl, rfl⟩)
  case pick c a b => simp only [evOp]; cases rd c <;> exact ⟨rfl, rfl, rfl⟩
  case alloc t => simp only [evOp]; cases zeroCells C t <;> exact ⟨rfl, rfl, rfl⟩
  case load t a =>
    simp only [evOp]
    cases rd a <;> (try exact ⟨rfl, rfl, rfl⟩)
    rename_i b off
    simp only
    cases Nat.blt b lim <;> (try exact ⟨rfl, rfl, rfl⟩)
    cases bx b <;> exact ⟨rfl, rfl, rfl⟩
  case store t a x =>
    simp only [evOp]
    cases rd a <;> (try exact ⟨rfl, rfl, rfl⟩)
    rename_i b off
    simp only
    cases Nat.blt b lim <;> (try exact ⟨rfl, rfl, rfl⟩)
    cases bx b <;> exact ⟨rfl, rfl, rfl⟩
  case nilCheck x => simp only [evOp]; cases rd x <;> exact ⟨rfl, rfl, rfl⟩
  case fieldAddr s x f => simp only [evOp]; cases fld C s f with
    | none => exact ⟨rfl, rfl, rfl⟩
    | some q => cases rd x <;> exact ⟨rfl, rfl, rfl⟩
  case field s x f => simp only [evOp]; cases fld C s f with
    | none => exact ⟨rfl, rfl, rfl⟩
    | some q => cases rd x <;> exact ⟨rfl, rfl, rfl⟩
  case extract x i => simp only [evOp]; cases rd x <;> exact ⟨rfl, rfl, rfl⟩
  case makeFunc fn first cap => cases fn <;> cases hf : first.toList <;> simp [evOp, hf]
  case call c =>
    obtain ⟨callee, args, argTypes⟩ := c
    cases callee with
    | invoke r m => exact ⟨rfl, rfl, rfl⟩
    | value f =>
      simp only [evOp]
      cases rd f <;> (try exact ⟨rfl, rfl, rfl⟩)
      exact callEff_dirty
    | builtin b =>
      simp only [evOp]
      split <;> (try exact ⟨rfl, rfl, rfl⟩)
      · split <;> exact ⟨rfl, rfl, rfl⟩
      · rename_i he; cases he

end Go.Im

/-
  What an operation does to boxes hangs only on the boxes that it can see.
-/
namespace Go.Im
variable {C : Cfg}

theorem boxesAt_congr {bx bx' : Boxes} : ∀ (ids : List Nat), (∀ b ∈ ids, bx b = bx' b) → boxesAt bx ids = boxesAt bx' ids
  | [], _ => rfl
  | b :: r, h => by
    have h1 := h b (by simp)
    have h2 := boxesAt_congr r fun c hc => h c (List.mem_cons_of_mem _ hc)
    simp only [boxesAt, h1, h2]
theorem upd_congr {bx bx' : Boxes} {k b : Nat} {v : Option (List PVal)} (h : bx b = bx' b) : upd bx k v b = upd bx' k v b := by
  by_cases e : b = k
  · subst e; rw [upd_same, upd_same]
  · rw [upd_other _ _ _ _ e, upd_other _ _ _ _ e, h]
theorem putBoxes_congr {f : Nat → Option Nat} {b : Nat} : ∀ (ids : List Nat) (cs : List (List PVal)) (bx bx' : Boxes), bx b = bx' b → putBoxes f bx ids cs b = putBoxes f bx' ids cs b
  | [], _, bx, bx', h => h
  | x :: r, [], bx, bx', h => h
  | x :: r, c :: cs, bx, bx', h => by
    have ih := putBoxes_congr (f := f) (b := b) r cs (upd bx x (some (c.map (mapLeaf f)))) (upd bx' x (some (c.map (mapLeaf f)))) (upd_congr h)
    simpa only [putBoxes] using ih
theorem newBoxes_congr {f : Nat → Option Nat} {b : Nat} : ∀ (cs : List (List PVal)) (n : Nat) (bx bx' : Boxes), bx b = bx' b → newBoxes f bx n cs b = newBoxes f bx' n cs b
  | [], _, bx, bx', h => h
  | c :: cs, n, bx, bx', h => by
    have ih := newBoxes_congr (f := f) (b := b) cs (n + 1) (upd bx n (some (c.map (mapLeaf f)))) (upd bx' n (some (c.map (mapLeaf f)))) (upd_congr h)
    simpa only [newBoxes] using ih

structure SameEff (bx bx' : Boxes) (E E' : Eff) : Prop where
  val : E.val = E'.val
  ok : E.ok = E'.ok
  bx : ∀ b, bx b = bx' b → E.bx b = E'.bx b

theorem callEff0 {f : Nat} {args : List PVal} {lim new : Nat} {bx : Boxes} {d : List (Nat × Nat)} (h : dedup (args.flatMap ptrs) [] ≠ []) : callEff C f args 0 lim new bx d = ⟨.undef, false, bx, d⟩ := by
  unfold callEff
  simp only
  generalize hids : dedup (args.flatMap ptrs) [] = ids at h
  split
  · rfl
  · split
    · rfl
    · split
      · exact absurd rfl h
      · rfl
theorem callEff_loc {f : Nat} {args : List PVal} {m lim new : Nat} {bx bx' : Boxes} {d : List (Nat × Nat)} (h : m ≠ 0 → ∀ b, b < lim → bx b = bx' b) :
    SameEff bx bx' (callEff C f args m lim new bx d) (callEff C f args m lim new bx' d) := by
  by_cases h0 : m = 0 ∧ dedup (args.flatMap ptrs) [] ≠ []
  · obtain ⟨rfl, h0⟩ := h0
    rw [callEff0 h0, callEff0 h0]
    exact ⟨rfl, rfl, fun b hb => hb⟩
  unfold callEff
  simp only
  generalize dedup (args.flatMap ptrs) [] = ids at h0
  cases hl : ids.all (Nat.blt · lim) with
  | false => exact ⟨rfl, rfl, fun b hb => hb⟩
  | true =>
    simp only
    by_cases hm : m = 0
    · subst hm
      cases ids with
      | nil =>
        simp only [boxesAt]
        split
        · exact ⟨rfl, rfl, fun b hb => hb⟩
        · rename_i ok v bs' _
          cases bs' <;> exact ⟨rfl, rfl, fun b hb => hb⟩
      | cons x r => exact absurd ⟨rfl, by simp⟩ h0
    · rw [boxesAt_congr ids fun b hb => h hm b (Nat.le_of_ble_eq_true (List.all_eq_true.1 hl b hb))]
      cases boxesAt bx' ids with
      | none => exact ⟨rfl, rfl, fun b hb => hb⟩
      | some bs =>
        simp only
        split
        · exact ⟨rfl, rfl, fun b hb => hb⟩
        · rename_i ok v bs' _
          rcases m with _ | _ | m
          · exact absurd rfl hm
          · exact ⟨rfl, rfl, fun b hb => hb⟩
          · exact ⟨rfl, rfl, fun b hb => newBoxes_congr _ _ _ _ (putBoxes_congr _ _ _ _ hb)⟩

theorem evOp_loc0 {o : Oper} {rd : Operand → PVal} {lim new : Nat} {bx bx' : Boxes} {d : List (Nat × Nat)} (hf : ∀ q, rd (.func q) = .func q []) (h : opCls C o.op ≠ 0 → ∀ b, b < lim → (adrOp rd o.op = none ∨ adrOp rd o.op = some b) → bx b = bx' b) :
    SameEff bx bx' (evOp C rd lim new bx d o) (evOp C rd lim new bx' d o) := by
  obtain ⟨dst, op, ty, pos, after, guard⟩ := o
  have same : ∀ (v : PVal) (ok : Bool) (d' : List (Nat × Nat)), SameEff bx bx' ⟨v, ok, bx, d⟩ ⟨v, ok, bx', d'⟩ := fun v ok d' => ⟨rfl, rfl, fun b hb => hb⟩
  cases op <;> (try exact same _ _ _)
  case pick c a b => simp only [evOp]; cases rd c <;> exact same _ _ _
  case alloc t =>
    simp only [evOp]
    cases zeroCells C t
    · exact same _ _ _
    · exact ⟨rfl, rfl, fun b hb => upd_congr hb⟩
  case box t x => exact ⟨rfl, rfl, fun b hb => upd_congr hb⟩
  case load t a =>
    simp only [evOp]
    cases hra : rd a <;> (try exact same _ _ _)
    rename_i b off
    simp only
    cases hl : Nat.blt b lim <;> (try exact same _ _ _)
    simp only
    rw [h (by simp [opCls]) b (Nat.le_of_ble_eq_true hl) (.inr (by simp only [adrOp, hra]))]
    cases bx' b <;> exact same _ _ _
  case store t a x =>
    simp only [evOp]
    cases hra : rd a <;> (try exact same _ _ _)
    rename_i b off
    simp only
    cases hl : Nat.blt b lim <;> (try exact same _ _ _)
    simp only
    rw [h (by simp [opCls]) b (Nat.le_of_ble_eq_true hl) (.inr (by simp only [adrOp, hra]))]
    cases bx' b
    · exact same _ _ _
    · exact ⟨rfl, rfl, fun b hb => upd_congr hb⟩
  case nilCheck x => simp only [evOp]; cases rd x <;> exact same _ _ _
  case fieldAddr s x f => simp only [evOp]; cases fld C s f with
    | none => exact same _ _ _
    | some q => cases rd x <;> exact same _ _ _
  case field s x f => simp only [evOp]; cases fld C s f with
    | none => exact same _ _ _
    | some q => cases rd x <;> exact same _ _ _
  case extract x i => simp only [evOp]; cases rd x <;> exact same _ _ _
  case makeFunc fn first cap => cases fn <;> cases hfi : first.toList <;> simp only [evOp, hfi] <;> exact same _ _ _
  case call c =>
    obtain ⟨callee, args, argTypes⟩ := c
    cases callee with
    | invoke r m => exact same _ _ _
    | value f =>
      simp only [evOp]
      cases hfv : rd f <;> (try exact same _ _ _)
      rename_i q cap
      simp only
      refine callEff_loc fun hm => ?_
      refine fun b hb => h ?_ b hb (.inl rfl)
      cases f with
      | func q' =>
        rw [hf] at hfv
        simp only [PVal.func.injEq] at hfv
        obtain ⟨rfl, _⟩ := hfv
        simpa [opCls] using hm
      | _ => simp [opCls]
    | builtin b =>
      simp only [evOp]
      split <;> (try exact same _ _ _)
      · split <;> exact same _ _ _
      · rename_i he; cases he

theorem evOp_loc {o : Oper} {rd rd' : Operand → PVal} {lim new : Nat} {bx bx' : Boxes} {d d' : List (Nat × Nat)} (hr : ∀ x ∈ o.op.operands.toList, rd x = rd' x) (hf : ∀ q, rd' (.func q) = .func q []) (h : opCls C o.op ≠ 0 → ∀ b, b < lim → (adrOp rd' o.op = none ∨ adrOp rd' o.op = some b) → bx b = bx' b) :
    SameEff bx bx' (evOp C rd lim new bx d o) (evOp C rd' lim new bx' d' o) := by
  rw [evOp_rd (dirty := d) hr]
  have h1 := evOp_loc0 (C := C) (o := o) (rd := rd') (lim := lim) (new := new) (bx := bx) (bx' := bx') (d := d) hf h
  have h2 := evOp_dirtyless (C := C) (o := o) (rd := rd') (lim := lim) (new := new) (bx := bx') (d := d) (d' := d')
  exact ⟨h1.val.trans h2.1, h1.ok.trans h2.2.1, fun b hb => (h1.bx b hb).trans (congrFun h2.2.2 b)⟩

/-- boxes that an operation can't have turned -/
theorem evOp_out (hle : ∀ f, C.mode f ≤ 2) {o : Oper} {rd : Operand → PVal} {lim new : Nat} {bx : Boxes} {d : List (Nat × Nat)} (hf : ∀ q, rd (.func q) = .func q []) (hok : (evOp C rd lim new bx d o).ok = true)
    {b : Nat} (hb : ¬ (new ≤ b ∧ b < new + stride)) (hl : lim ≤ b ∨ opCls C o.op ≠ 2 ∨ ∃ b0, adrOp rd o.op = some b0 ∧ b ≠ b0) : (evOp C rd lim new bx d o).bx b = bx b := by
  by_cases hc : opCls C o.op ≠ 2 ∧ isNew o.op = false
  · rw [evOp_bx_cls hle hf hc.1 hc.2]
  obtain ⟨dst, op, ty, pos, after, guard⟩ := o
  cases op <;> (try (simp only [evOp] at hok; cases hok; done)) <;> (try rfl)
  case alloc t =>
    simp only [evOp]
    cases zeroCells C t with
    | none => rfl
    | some z => exact upd_other _ _ _ _ fun e => hb (by simp only [stride]; omega)
  case box t x => exact upd_other _ _ _ _ fun e => hb (by simp only [stride]; omega)
  case pick => exact absurd ⟨by simp [opCls], rfl⟩ hc
  case load => exact absurd ⟨by simp [opCls], rfl⟩ hc
  case nilCheck => exact absurd ⟨by simp [opCls], rfl⟩ hc
  case fieldAddr => exact absurd ⟨by simp [opCls], rfl⟩ hc
  case field => exact absurd ⟨by simp [opCls], rfl⟩ hc
  case extract => exact absurd ⟨by simp [opCls], rfl⟩ hc
  case makeFunc => exact absurd ⟨by simp [opCls], rfl⟩ hc
  case store t a x =>
    simp only [evOp] at hok ⊢
    cases hp : rd a <;> (try rfl)
    rename_i b' off
    simp only
    cases hlt : Nat.blt b' lim <;> (try rfl)
    simp only
    cases bx b' with
    | none => rfl
    | some cs =>
      refine upd_other _ _ _ _ fun e => ?_
      have hb' : b' < lim := Nat.le_of_ble_eq_true hlt
      rcases hl with h | h | ⟨b0, h, h'⟩
      · omega
      · exact h rfl
      · simp only [adrOp, hp, Option.some.injEq] at h; exact h' (e.trans h)
  case call c =>
    obtain ⟨callee, args, argTypes⟩ := c
    cases callee with
    | invoke r m => simp only [evOp] at hok; cases hok
    | builtin bb => exact absurd ⟨by simp [opCls], rfl⟩ hc
    | value f =>
      have hl' : lim ≤ b := by
        rcases hl with h | h | ⟨b0, h, _⟩
        · exact h
        · exact absurd ⟨h, rfl⟩ hc
        · cases h
      clear hl
      simp only [evOp] at hok ⊢
      cases hp : rd f <;> (try rfl)
      rename_i gf cap
      rw [hp] at hok
      simp only at hok ⊢
      generalize args.toList.map rd ++ cap = A at hok ⊢
      unfold callEff at hok ⊢
      simp only at hok ⊢
      generalize hids : dedup (A.flatMap ptrs) [] = ids at hok ⊢
      have hnd : ids.Nodup := by rw [← hids]; exact dedup_nodup _ _ List.nodup_nil
      cases hlim : ids.all (Nat.blt · lim) with
      | false => rfl
      | true =>
      simp only [hlim] at hok ⊢
      cases hbs : boxesAt bx ids with
      | none => rfl
      | some bs =>
        simp only [hbs] at hok ⊢
        split <;> (try rfl)
        rename_i ok v bs' hS
        rw [hS] at hok
        simp only at hok ⊢
        split at hok
        · split <;> rfl
        · rfl
        · have hle' : ids.length ≤ bs'.length ∧ bs'.length ≤ ids.length + stride := by
            split at hok <;> (try (cases hok; done))
            rename_i q1 q2
            exact ⟨Nat.le_of_ble_eq_true q1, Nat.le_of_ble_eq_true q2⟩
          dsimp only
          rw [(newBoxes_get _ (bs'.drop ids.length) _ new b).2 (by simp; omega)]
          exact (putBoxes_get _ ids (bs'.take ids.length) bx b hnd (by simp; omega)).2 fun hm => by
            have : b < lim := Nat.le_of_ble_eq_true (List.all_eq_true.1 hlim b hm)
            omega
end Go.Im

/-
  A region that draws its order: after any of its operations, what stands is what the text's order says of the same operations.
-/
namespace Go.Im
variable {C : Cfg}

/-! ### what stands before -/
theorem befOne_spec {acc : List Nat} : ∀ (es : List Edge) (s j : Nat), (befOne acc es s).testBit j = true → s.testBit j = true ∨ ∃ e ∈ es, Region.binds .any e = true ∧ (j = e.on ∨ (acc.getD e.on 0).testBit j = true)
  | [], s, j, h => .inl h
  | e :: r, s, j, h => by
    unfold befOne at h
    cases hb : Region.binds .any e with
    | true =>
      rw [hb] at h
      rcases befOne_spec r _ j h with h1 | ⟨e', h1, h2⟩
      · simp only [Nat.testBit_or, Bool.or_eq_true, Nat.testBit_two_pow, decide_eq_true_eq] at h1
        rcases h1 with (h1 | h1) | h1
        · exact .inl h1
        · exact .inr ⟨e, by simp, hb, .inl h1.symm⟩
        · exact .inr ⟨e, by simp, hb, .inr h1⟩
      · exact .inr ⟨e', List.mem_cons_of_mem _ h1, h2⟩
    | false =>
      rw [hb] at h
      rcases befOne_spec r _ j h with h1 | ⟨e', h1, h2⟩
      · exact .inl h1
      · exact .inr ⟨e', List.mem_cons_of_mem _ h1, h2⟩

/-- what was listed with all that stands before it -/
def Closed (ops : List Oper) (D : Nat → Prop) : Prop := ∀ i o, D i → ops[i]? = some o → ∀ e ∈ o.after.toList, Region.binds .any e = true → D e.on

theorem befGo_spec (ops : List Oper) (D : Nat → Prop) (hD : Closed ops D) : ∀ (l pre : List Oper) (acc : List Nat), ops = pre ++ l → acc.length = pre.length →
    (∀ (m : Nat) (o : Oper), m < acc.length → ops[m]? = some o → (∀ e ∈ o.after.toList, Region.binds .any e = true → D e.on) → ∀ j, (acc.getD m 0).testBit j = true → D j) →
    ∀ (m : Nat) (o : Oper), ops[m]? = some o → (∀ e ∈ o.after.toList, Region.binds .any e = true → D e.on) → ∀ j, ((befGo l acc).getD m 0).testBit j = true → D j
  | [], pre, acc, he, hl, hP, m, o, ho, hd, j, hj => hP m o (by rw [hl]; have := (List.getElem?_eq_some_iff.1 ho).1; simpa [he] using this) ho hd j hj
  | x :: l, pre, acc, he, hl, hP, m, o, ho, hd, j, hj => by
    have hx : ops[acc.length]? = some x := by rw [he, hl]; simp
    have step : befGo (x :: l) acc = befGo l (acc ++ [befOne acc x.after.toList 0]) := by
      conv => lhs; unfold befGo
      split <;> simp_all
    rw [step] at hj
    refine befGo_spec ops D hD l (pre ++ [x]) (acc ++ [befOne acc x.after.toList 0]) (by simp [he]) (by simp [hl]) (fun m o hm ho hd j hj => ?_) m o ho hd j hj
    rw [List.length_append] at hm
    by_cases hlt : m < acc.length
    · refine hP m o hlt ho hd j ?_
      rw [List.getD_eq_getElem?_getD, List.getElem?_append_left hlt] at hj
      rw [List.getD_eq_getElem?_getD]; exact hj
    · have hm' : m = acc.length := by simp at hm; omega
      subst hm'
      rw [hx] at ho; cases ho
      rw [List.getD_eq_getElem?_getD, List.getElem?_append_right (Nat.le_refl _)] at hj
      simp only [Nat.sub_self, List.getElem?_cons_zero, Option.getD_some] at hj
      rcases befOne_spec _ _ _ hj with h1 | ⟨e, h1, h2, h3⟩
      · simp at h1
      · have hDe := hd e h1 h2
        rcases h3 with h3 | h3
        · rw [h3]; exact hDe
        · by_cases hel : e.on < acc.length
          · have : ∃ oe, ops[e.on]? = some oe := ⟨ops[e.on]'(by rw [he, List.length_append, ← hl]; omega), List.getElem?_eq_getElem _⟩
            obtain ⟨oe, hoe⟩ := this
            exact hP e.on oe hel hoe (hD e.on oe hDe hoe) j h3
          · rw [List.getD_eq_getElem?_getD, List.getElem?_eq_none (by omega)] at h3
            simp at h3

theorem drawPairs_spec {ops : List Oper} {bef : Nat → Nat} {ad : Nat → Option Nat} : ∀ (l : List Oper) (k : Nat), drawPairs C ops bef ad k l = true → ∀ (p q : Nat) (x y : Oper), p < q → l[p]? = some x → l[q]? = some y →
    (bef (k + q)).testBit (k + p) = true ∨ indep C ops (ad (k + p)) (ad (k + q)) x y = true
  | [], k, _, p, q, x, y, _, hp, _ => by simp at hp
  | z :: l, k, h, p, q, x, y, hlt, hp, hq => by
    unfold drawPairs at h
    split at h <;> (try (cases h; done))
    rename_i hall
    obtain ⟨q', rfl⟩ : ∃ q', q = q' + 1 := ⟨q - 1, by omega⟩
    simp only [List.getElem?_cons_succ] at hq
    cases p with
    | zero =>
      simp at hp; subst hp
      have := List.all_eq_true.1 hall (y, k + 1 + q') (List.mem_iff_getElem?.2 ⟨q', by rw [List.getElem?_zipIdx, hq]; rfl⟩)
      simp only at this
      rw [show k + (q' + 1) = k + 1 + q' from by omega]
      simp only [Nat.add_zero]
      cases hb : (bef (k + 1 + q')).testBit k with
      | true => exact .inl rfl
      | false => rw [hb] at this; exact .inr this
    | succ p' =>
      have := drawPairs_spec l (k + 1) h p' q' x y (by omega) (by simpa using hp) hq
      rw [show k + (q' + 1) = k + 1 + q' from by omega, show k + (p' + 1) = k + 1 + p' from by omega]
      exact this

theorem disjN_spec {l m : List Nat} (h : disjN l m = true) : ∀ x ∈ l, x ∉ m := by
  induction l with
  | nil => simp
  | cons a r ih =>
    unfold disjN at h
    cases hm : memN a m with
    | true => rw [hm] at h; cases h
    | false =>
      rw [hm] at h
      intro x hx
      rcases List.mem_cons.1 hx with e | e
      · subst e; exact fun hh => by rw [(memN_iff x m).2 hh] at hm; cases hm
      · exact ih h x e

theorem edgesBack_spec : ∀ (l : List Oper) (k : Nat), edgesBack k l = true → ∀ (p : Nat) (o : Oper), l[p]? = some o → ∀ e ∈ o.after.toList, Region.binds .any e = true → e.on < k + p
  | [], k, _, p, o, hp => by simp at hp
  | z :: l, k, h, p, o, hp => by
    unfold edgesBack at h
    split at h <;> (try (cases h; done))
    rename_i hall
    cases p with
    | zero =>
      simp at hp; subst hp
      intro e he hb
      have := List.all_eq_true.1 hall e he
      rw [hb] at this
      have : e.on + 1 ≤ k := Nat.le_of_ble_eq_true this
      omega
    | succ p =>
      intro e he hb
      have := edgesBack_spec l (k + 1) h p o (by simpa using hp) e he hb
      omega

/-! ### the text's order, step by step -/
theorem goOps_append {lim nb0 : Nat} {ops : List Oper} : ∀ (l1 l2 : List Oper) (i : Nat) (r : RSt), goOps C lim nb0 ops i (l1 ++ l2) r = goOps C lim nb0 ops (i + l1.length) l2 (goOps C lim nb0 ops i l1 r)
  | [], l2, i, r => rfl
  | x :: l1, l2, i, r => by
    have : goOps C lim nb0 ops (i + 1) (l1 ++ l2) (stepOp C lim nb0 ops i x r) = goOps C lim nb0 ops (i + 1 + l1.length) l2 (goOps C lim nb0 ops (i + 1) l1 (stepOp C lim nb0 ops i x r)) := goOps_append l1 l2 (i + 1) _
    simp only [List.cons_append, goOps, List.length_cons]
    rw [this, show i + 1 + l1.length = i + (l1.length + 1) from by omega]

/-- the first 'k' operations in the text's order -/
def T (C : Cfg) (st : St) (ops : List Oper) (k : Nat) : RSt := goOps C st.nb st.nb ops 0 (ops.take k) ⟨st, []⟩
theorem T_zero (st : St) (ops : List Oper) : T C st ops 0 = ⟨st, []⟩ := by simp [T, goOps]
theorem T_succ {st : St} {ops : List Oper} {k : Nat} {o : Oper} (h : ops[k]? = some o) : T C st ops (k + 1) = stepOp C st.nb st.nb ops k o (T C st ops k) := by
  have hlt := (List.getElem?_eq_some_iff.1 h).1
  unfold T
  rw [List.take_add_one, h, goOps_append]
  simp only [Option.toList_some, goOps, List.length_take, Nat.min_eq_left (Nat.le_of_lt hlt), Nat.zero_add]
theorem T_len {st : St} {ops : List Oper} : T C st ops ops.length = goOps C st.nb st.nb ops 0 ops ⟨st, []⟩ := by simp [T]
theorem T_ok {st : St} {ops : List Oper} {k m : Nat} (h : (T C st ops m).s.ok = true) (hk : k ≤ m) : (T C st ops k).s.ok = true := by
  unfold T at *
  have e : ops.take m = ops.take k ++ (ops.take m).drop k := by
    have := List.take_append_drop k (ops.take m)
    rw [List.take_take, Nat.min_eq_left hk] at this
    exact this.symm
  rw [e, goOps_append] at h
  exact goOps_ok _ _ _ h

/-- the box of the j-th operation, in the text's order -/
def adT (C : Cfg) (st : St) (ops : List Oper) (j : Nat) : Option Nat := match ops[j]? with | some o => adrOp (argOf (T C st ops j).s.tm) o.op | none => none
theorem adrs_get {st : St} {ops : List Oper} : ∀ (rest : List Oper) (i : Nat), ops.drop i = rest → ∀ j, j < rest.length → (adrs C st.nb st.nb ops i rest (T C st ops i)).getD j none = adT C st ops (i + j)
  | [], i, _, j, h => by simp at h
  | o :: rest, i, hd, j, h => by
    have hi : ops[i]? = some o := by
      have : (ops.drop i)[0]? = some o := by rw [hd]; rfl
      rwa [List.getElem?_drop, Nat.add_zero] at this
    simp only [adrs]
    cases j with
    | zero => simp [adT, hi]
    | succ j =>
      have hd' : ops.drop (i + 1) = rest := by
        have := congrArg (List.drop 1) hd
        rw [List.drop_drop] at this; simpa using this
      have := adrs_get (st := st) rest (i + 1) hd' j (by simpa using h)
      rw [T_succ hi] at this
      rw [show i + (j + 1) = i + 1 + j from by omega, ← this]
      simp

end Go.Im

/-
  The same, one operation on.
-/
namespace Go.Im
variable {C : Cfg}

def InSlot (nb j b : Nat) : Prop := nb + stride * j ≤ b ∧ b < nb + stride * j + stride
theorem inSlot_inj {nb i j b : Nat} (h : InSlot nb i b) (k : InSlot nb j b) : i = j := by
  unfold InSlot at h k
  simp only [stride] at *
  omega

/-- what stands after the operations 'D', in whatever order -/
structure Mt (C : Cfg) (st : St) (ops : List Oper) (D : Nat → Prop) (r : RSt) : Prop where
  ok : r.s.ok = true
  nb : r.s.nb = st.nb
  n : r.s.n = st.n
  lt : ∀ j, D j → j < ops.length
  tmI : ∀ j o t, D j → ops[j]? = some o → o.dst = some t → r.s.tm t = (T C st ops (j + 1)).s.tm t
  tmO : ∀ t, (∀ j o, D j → ops[j]? = some o → o.dst ≠ some t) → r.s.tm t = st.tm t
  eI : ∀ j o t, D j → ops[j]? = some o → o.dst = some t → gFind t r.env = gFind t (T C st ops (j + 1)).env
  eO : ∀ t, (∀ j o, D j → ops[j]? = some o → o.dst ≠ some t) → gFind t r.env = none
  bxN : ∀ j b, D j → InSlot st.nb j b → r.s.bx b = (T C st ops (j + 1)).s.bx b
  bxO : ∀ b, st.nb ≤ b → (∀ j, D j → ¬ InSlot st.nb j b) → r.s.bx b = st.bx b
  bxB : ∀ k b, b < st.nb → k ≤ ops.length → (∀ j o, ops[j]? = some o → opCls C o.op = 2 → (adT C st ops j = none ∨ adT C st ops j = some b) → (D j ↔ j < k)) → r.s.bx b = (T C st ops k).s.bx b

theorem okUnder_congr {e e' : GEnv} {here : List (Nat × Bool)} {t : Nat} (h : gFind t e = gFind t e') : okUnder e here t = okUnder e' here t := by
  unfold okUnder; rw [h]
theorem okUnderX_congr {e e' : GEnv} {here : List (Nat × Bool)} {x : Operand} (h : ∀ t, x = .tmp t → gFind t e = gFind t e') : okUnderX e here x = okUnderX e' here x := by
  cases x <;> first | rfl | exact okUnder_congr (h _ rfl)
theorem guardsOk_congr {e e' : GEnv} {here : List (Nat × Bool)} {o : Op} (h : ∀ t ∈ tmpsOf o, gFind t e = gFind t e') : guardsOk e here o = guardsOk e' here o := by
  cases o
  case pick c a b =>
    have hx : ∀ x ∈ [c, a, b], ∀ t, x = .tmp t → gFind t e = gFind t e' := fun x hx t ht => h t (mem_tmpsOf (by subst ht; simpa [Op.operands] using hx))
    have h1 := fun l => okUnderX_congr (here := l) (hx c (by simp))
    have h2 := fun l => okUnderX_congr (here := l) (hx a (by simp))
    have h3 := fun l => okUnderX_congr (here := l) (hx b (by simp))
    simp only [guardsOk, h1, h2, h3]
  all_goals
    simp only [guardsOk]
    rw [Bool.eq_iff_iff, List.all_eq_true, List.all_eq_true]
    exact ⟨fun q t ht => by rw [← okUnder_congr (h t ht)]; exact q t ht, fun q t ht => by rw [okUnder_congr (h t ht)]; exact q t ht⟩
theorem okGuard_congr {e e' : GEnv} {gs : List (Nat × Bool)} (h : ∀ d x, (d, x) ∈ gs → gFind d e = gFind d e') : okGuard e gs = okGuard e' gs := by
  cases gs with
  | nil => rfl
  | cons q r => obtain ⟨d, x⟩ := q; simp only [okGuard, h d x (by simp)]
theorem ctxB_congr {t t' : Nat → PVal} : ∀ {gs : List (Nat × Bool)}, (∀ d x, (d, x) ∈ gs → t d = t' d) → ctxB t gs = ctxB t' gs
  | [], _ => rfl
  | (d, x) :: r, h => by
    have ih : ctxB t r = ctxB t' r := ctxB_congr fun d' x' hm => h d' x' (List.mem_cons_of_mem _ hm)
    simp only [ctxB, h d x (by simp), ih]

theorem adrOp_congr {rd rd' : Operand → PVal} {o : Op} (h : ∀ x ∈ o.operands.toList, rd x = rd' x) : adrOp rd o = adrOp rd' o := by
  cases o <;> (try rfl)
  case load t a => simp only [adrOp]; rw [h a (by simp [Op.operands])]
  case store t a x => simp only [adrOp]; rw [h a (by simp [Op.operands])]

/-- what one step does -/
structure Stp (C : Cfg) (st : St) (ops : List Oper) (i : Nat) (o : Oper) (r r' : RSt) (v : PVal) : Prop where
  nb : r'.s.nb = r.s.nb
  n : r'.s.n = r.s.n
  tm : r'.s.tm = putTm r.s.tm o.dst v
  e : ∀ t, o.dst ≠ some t → gFind t r'.env = gFind t r.env
  out : ∀ b, ¬ InSlot st.nb i b → (st.nb ≤ b ∨ opCls C o.op ≠ 2 ∨ ∃ b0, adrOp (argOf r.s.tm) o.op = some b0 ∧ b ≠ b0) → r'.s.bx b = r.s.bx b

theorem stp_of (hle : ∀ f, C.mode f ≤ 2) {st : St} {ops : List Oper} {i : Nat} {o : Oper} {r : RSt} (hgd : o.guard ≠ none → opCls C o.op ≠ 2) (hok : (stepOp C st.nb st.nb ops i o r).s.ok = true) :
    Stp C st ops i o r (stepOp C st.nb st.nb ops i o r) (evOp C (argOf r.s.tm) st.nb (st.nb + stride * i) r.s.bx r.s.dirty o).val := by
  unfold stepOp at hok ⊢
  simp only at hok ⊢
  cases hg : chain ops ops.length o.guard with
  | nil =>
    rw [hg] at hok
    simp only at hok ⊢
    have h1 := (andB_true hok).2
    split at h1 <;> (try (cases h1; done))
    exact ⟨rfl, rfl, rfl, fun t _ => rfl, fun b hb hl => evOp_out hle (fun q => rfl) h1 hb hl⟩
  | cons q qs =>
    simp only
    have hgn : o.guard ≠ none := fun e => by rw [e, chain_none] at hg; cases hg
    refine ⟨rfl, rfl, rfl, fun t ht => ?_, fun b hb hl => ?_⟩
    · cases hd : o.dst with
      | none => rfl
      | some d =>
        simp only [gFind]
        split
        · rename_i hbq; exact absurd (by rw [hd, Nat.eq_of_beq_eq_true hbq]) ht
        · rfl
    · refine congrFun (g := r.s.bx) ?_ b
      dsimp only
      split
      · rename_i h2; exact absurd h2 (hgd hgn)
      · rfl

theorem T_quiet (hle : ∀ f, C.mode f ≤ 2) {st : St} {ops : List Oper} (hgd : ∀ (i : Nat) (o : Oper), ops[i]? = some o → o.guard ≠ none → opCls C o.op ≠ 2) {k b : Nat} (hb : b < st.nb) :
    ∀ m, k ≤ m → m ≤ ops.length → (T C st ops m).s.ok = true → (∀ j o, k ≤ j → j < m → ops[j]? = some o → opCls C o.op = 2 → (adT C st ops j = none ∨ adT C st ops j = some b) → False) → (T C st ops m).s.bx b = (T C st ops k).s.bx b
  | 0, hk, _, _, _ => by have : k = 0 := by omega
                         subst this; rfl
  | m + 1, hk, hm, hok, h => by
    by_cases e : k = m + 1
    · subst e; rfl
    · have ho : ops[m]? = some (ops[m]'(by omega)) := List.getElem?_eq_getElem _
      have hq := T_quiet hle hgd hb m (by omega) (by omega) (T_ok hok (by omega)) fun j o h1 h2 => h j o h1 (by omega)
      rw [← hq]
      rw [T_succ ho] at hok ⊢
      refine (stp_of hle (hgd m _ ho) hok).out b (fun hs => by unfold InSlot at hs; omega) (.inr ?_)
      by_cases h2 : opCls C (ops[m]'(by omega)).op = 2
      · have hn := h m _ (by omega) (by omega) ho h2
        have ea : adT C st ops m = adrOp (argOf (T C st ops m).s.tm) (ops[m]'(by omega)).op := by simp only [adT, ho]
        rw [ea] at hn
        cases hq : adrOp (argOf (T C st ops m).s.tm) (ops[m]'(by omega)).op with
        | none => exact (hn (.inl hq)).elim
        | some b0 => exact .inr ⟨b0, rfl, fun e => hn (.inr (by rw [hq, e]))⟩
      · exact .inl h2

theorem step_mt (hle : ∀ f, C.mode f ≤ 2) {st : St} {ops : List Oper} (hgd : ∀ (i : Nat) (o : Oper), ops[i]? = some o → o.guard ≠ none → opCls C o.op ≠ 2) (honce : Once ops) {D : Nat → Prop} {r : RSt} {i : Nat} {o : Oper}
    (M : Mt C st ops D r) (MT : Mt C st ops (· < i) (T C st ops i)) (hi : ops[i]? = some o) (hDi : ¬ D i) (hokn : (T C st ops ops.length).s.ok = true)
    (A1 : ∀ t ∈ opReads ops o, r.s.tm t = (T C st ops i).s.tm t ∧ gFind t r.env = gFind t (T C st ops i).env)
    (A2 : opCls C o.op ≠ 0 → ∀ b, b < st.nb → (adT C st ops i = none ∨ adT C st ops i = some b) → r.s.bx b = (T C st ops i).s.bx b)
    (A3 : opCls C o.op = 2 → ∀ b, (adT C st ops i = none ∨ adT C st ops i = some b) → ∀ j oj, ops[j]? = some oj → opCls C oj.op = 2 → (adT C st ops j = none ∨ adT C st ops j = some b) → (D j ↔ j < i)) :
    Mt C st ops (fun j => D j ∨ j = i) (stepOp C st.nb st.nb ops i o r) := by
  have hlt := (List.getElem?_eq_some_iff.1 hi).1
  have hTs := T_succ (C := C) (st := st) hi
  have hokT' := T_ok hokn (show i + 1 ≤ ops.length from hlt)
  rw [hTs] at hokT'
  have eaT : adT C st ops i = adrOp (argOf (T C st ops i).s.tm) o.op := by simp only [adT, hi]
  have SE := evOp_loc (C := C) (o := o) (rd := argOf r.s.tm) (rd' := argOf (T C st ops i).s.tm) (lim := st.nb) (new := st.nb + stride * i) (bx := r.s.bx) (bx' := (T C st ops i).s.bx) (d := r.s.dirty) (d' := (T C st ops i).s.dirty)
    (fun x hx => by cases x <;> first | rfl | exact (A1 _ (List.mem_append_left _ (mem_tmpsOf hx))).1) (fun q => rfl) (eaT ▸ A2)
  have hch : ∀ d x, (d, x) ∈ chain ops ops.length o.guard → r.s.tm d = (T C st ops i).s.tm d ∧ gFind d r.env = gFind d (T C st ops i).env := fun d x hm => A1 d (List.mem_append_right _ (List.mem_map.2 ⟨(d, x), hm, rfl⟩))
  have hgo := guardsOk_congr (here := chain ops ops.length o.guard) (o := o.op) fun t ht => (A1 t (List.mem_append_left _ ht)).2
  have hn : r.s.n = (T C st ops i).s.n := M.n.trans MT.n.symm
  -- the same verdict
  have hok : (stepOp C st.nb st.nb ops i o r).s.ok = true := by
    unfold stepOp at hokT' ⊢
    simp only at hokT' ⊢
    cases hg : chain ops ops.length o.guard with
    | nil =>
      rw [hg] at hokT' hgo
      simp only at hokT' ⊢
      have h1 := (andB_true hokT').2
      rw [hgo, hn, SE.ok, M.ok]
      split at h1 <;> (try (cases h1; done))
      simp [h1, andB]
    | cons q qs =>
      rw [hg] at hokT' hgo hch
      simp only at hokT' ⊢
      have h1 := (andB_true hokT').2
      rw [hgo, hn, SE.ok, M.ok, okGuard_congr fun d x hm => (hch d x hm).2, ctxB_congr fun d x hm => (hch d x hm).1, ctxVal_congr fun d x hm => (hch d x hm).1]
      unfold andB
      rw [h1]
  have S := stp_of (r := r) hle (hgd i o hi) hok
  have S' := stp_of (r := T C st ops i) hle (hgd i o hi) hokT'
  rw [← hTs] at S'
  -- the slot's own guards
  have heI : ∀ t, o.dst = some t → gFind t (stepOp C st.nb st.nb ops i o r).env = gFind t (T C st ops (i + 1)).env := by
    intro t ht
    have e1 : gFind t r.env = none := M.eO t fun j oj hj hoj hd => hDi (honce j i oj o t hoj hi hd ht ▸ hj)
    have e2 : gFind t (T C st ops i).env = none := MT.eO t fun j oj hj hoj hd => by have := honce j i oj o t hoj hi hd ht; omega
    rw [hTs]
    unfold stepOp
    simp only
    cases hg : chain ops ops.length o.guard with
    | nil => simp only; rw [e1, e2]
    | cons q qs => simp only [ht, gFind]; rw [e1, e2]
  -- the boxes
  have hbI : ∀ b, r.s.bx b = (T C st ops i).s.bx b → (stepOp C st.nb st.nb ops i o r).s.bx b = (T C st ops (i + 1)).s.bx b := by
    intro b hb
    rw [hTs]
    unfold stepOp
    simp only
    cases hg : chain ops ops.length o.guard with
    | nil => exact SE.bx b hb
    | cons q qs =>
      have hgn : o.guard ≠ none := fun e => by rw [e, chain_none] at hg; cases hg
      have key : ∀ X Y : Boxes, (match opCls C o.op with | 2 => X | _ => Y) = Y := fun X Y => by
        split
        · rename_i h2; exact absurd h2 (hgd i o hi hgn)
        · rfl
      have k1 := fun X Y => congrFun (key X Y) b
      exact (k1 _ _).trans (hb.trans (k1 _ _).symm)
  refine ⟨hok, S.nb.trans M.nb, S.n.trans M.n, fun j hj => hj.elim (M.lt j) fun e => e ▸ hlt, ?_, ?_, ?_, ?_, ?_, ?_, ?_⟩
  · intro j oj t hj hoj hd
    rw [S.tm, putTm_get]
    by_cases e : j = i
    · subst e
      rw [hi] at hoj; cases hoj
      rw [S'.tm, putTm_get, if_pos hd, if_pos hd, SE.val]
    · rw [if_neg fun e' => e (honce j i oj o t hoj hi hd e')]
      exact M.tmI j oj t (hj.resolve_right e) hoj hd
  · intro t ht
    rw [S.tm, putTm_get, if_neg (ht i o (.inr rfl) hi)]
    exact M.tmO t fun j oj hj => ht j oj (.inl hj)
  · intro j oj t hj hoj hd
    by_cases e : j = i
    · subst e
      rw [hi] at hoj; cases hoj
      exact heI t hd
    · rw [S.e t fun e' => e (honce j i oj o t hoj hi hd e')]
      exact M.eI j oj t (hj.resolve_right e) hoj hd
  · intro t ht
    rw [S.e t (ht i o (.inr rfl) hi)]
    exact M.eO t fun j oj hj => ht j oj (.inl hj)
  · intro j b hj hs
    by_cases e : j = i
    · subst e
      refine hbI b ?_
      have hnb : st.nb ≤ b := by unfold InSlot at hs; omega
      rw [M.bxO b hnb fun j' hj' hs' => hDi (inSlot_inj hs' hs ▸ hj'), MT.bxO b hnb fun j' hj' hs' => by have := inSlot_inj hs' hs; omega]
    · rw [S.out b (fun hs' => e (inSlot_inj hs hs')) (.inl (by unfold InSlot at hs; omega))]
      exact M.bxN j b (hj.resolve_right e) hs
  · intro b hb hs
    rw [S.out b (hs i (.inr rfl)) (.inl hb)]
    exact M.bxO b hb fun j hj => hs j (.inl hj)
  · intro k b hb hk hc
    have ea : adT C st ops i = adrOp (argOf (T C st ops i).s.tm) o.op := by simp only [adT, hi]
    have er : adrOp (argOf r.s.tm) o.op = adrOp (argOf (T C st ops i).s.tm) o.op := adrOp_congr fun x hx => by cases x <;> first | rfl | exact (A1 _ (List.mem_append_left _ (mem_tmpsOf hx))).1
    by_cases h2 : opCls C o.op = 2 ∧ (adT C st ops i = none ∨ adT C st ops i = some b)
    · obtain ⟨h2, h3⟩ := h2
      rw [hbI b (A2 (by rw [h2]; simp) b hb h3)]
      have hik : i < k := (hc i o hi h2 h3).1 (.inr rfl)
      exact (T_quiet hle hgd hb k (by omega) hk (T_ok hokn hk) fun j oj h4 h5 h6 h7 h8 => by
        rcases (hc j oj h6 h7 h8).2 h5 with h9 | h9
        · have := (A3 h2 b h3 j oj h6 h7 h8).1 h9; omega
        · omega).symm
    · rw [S.out b (fun hs => by unfold InSlot at hs; omega) (.inr ?_)]
      · refine M.bxB k b hb hk fun j oj hj h3 h4 => ?_
        have := hc j oj hj h3 h4
        have hne : j ≠ i := fun e => by subst e; rw [hi] at hj; cases hj; exact h2 ⟨h3, h4⟩
        exact ⟨fun hD => this.1 (.inl hD), fun hD => (this.2 hD).resolve_right hne⟩
      · by_cases h5 : opCls C o.op = 2
        · rw [er, ← ea]
          cases hq : adT C st ops i with
          | none => exact (h2 ⟨h5, .inl hq⟩).elim
          | some b0 => exact .inr ⟨b0, rfl, fun e => h2 ⟨h5, .inr (by rw [hq, e])⟩⟩
        · exact .inl h5

end Go.Im

/-
  A region that draws its order: sound.
-/
namespace Go.Im
variable {C : Cfg} {g : Gh} {w : World}

theorem mt_text (hle : ∀ f, C.mode f ≤ 2) {st : St} {ops : List Oper} (hst : st.ok = true) (hgd : ∀ (i : Nat) (o : Oper), ops[i]? = some o → o.guard ≠ none → opCls C o.op ≠ 2) (honce : Once ops) (hokn : (T C st ops ops.length).s.ok = true) :
    ∀ k, k ≤ ops.length → Mt C st ops (· < k) (T C st ops k)
  | 0, _ => by
    rw [T_zero]
    refine ⟨hst, rfl, rfl, fun j hj => absurd hj (Nat.not_lt_zero j), fun j _ _ hj => absurd hj (Nat.not_lt_zero j), fun _ _ => rfl, fun j _ _ hj => absurd hj (Nat.not_lt_zero j), fun _ _ => rfl, fun j _ hj => absurd hj (Nat.not_lt_zero j), fun _ _ _ => rfl, fun k b hb hk hc => ?_⟩
    have := T_quiet hle hgd hb k (Nat.zero_le k) hk (T_ok hokn hk) fun j o _ h2 h3 h4 h5 => absurd ((hc j o h3 h4 h5).2 h2) (Nat.not_lt_zero j)
    rw [this, T_zero]
  | k + 1, hk => by
    have M := mt_text hle hst hgd honce hokn k (by omega)
    have hi : ops[k]? = some (ops[k]'(by omega)) := List.getElem?_eq_getElem _
    have := step_mt hle hgd honce M M hi (Nat.lt_irrefl k) hokn (fun _ _ => ⟨rfl, rfl⟩) (fun _ _ _ _ => rfl) (fun _ _ _ j oj _ _ _ => Iff.rfl)
    rw [← T_succ hi] at this
    refine ⟨this.ok, this.nb, this.n, fun j hj => by omega, fun j o t hj => this.tmI j o t (by omega), fun t ht => this.tmO t fun j o hj => ht j o (by omega), fun j o t hj => this.eI j o t (by omega), fun t ht => this.eO t fun j o hj => ht j o (by omega),
      fun j b hj => this.bxN j b (by omega), fun b hb hs => this.bxO b hb fun j hj => hs j (by omega), fun k' b hb hk' hc => this.bxB k' b hb hk' fun j o h1 h2 h3 => ?_⟩
    have := hc j o h1 h2 h3
    constructor
    · intro h; exact this.1 (by omega)
    · intro h; have := this.2 h; omega

/-- what the check of a drawing region says -/
structure Drw (C : Cfg) (st : St) (ops : List Oper) : Prop where
  once : Once ops
  back : ∀ (i : Nat) (o : Oper) (j : Nat) (b : Bool), ops[i]? = some o → o.guard = some (j, b) → j < i
  edge : ∀ (i : Nat) (o : Oper), ops[i]? = some o → ∀ e ∈ o.after.toList, Region.binds .any e = true → e.on < i
  gd : ∀ (i : Nat) (o : Oper), ops[i]? = some o → o.guard ≠ none → opCls C o.op ≠ 2
  pair : ∀ (p q : Nat) (x y : Oper), p < q → ops[p]? = some x → ops[q]? = some y → indep C ops (adT C st ops p) (adT C st ops q) x y = true ∨
    ∀ D : Nat → Prop, Closed ops D → (∀ e ∈ y.after.toList, Region.binds .any e = true → D e.on) → D p

theorem drw_of {st : St} {ops : List Oper} (h1 : regOk ops = true) (h2 : drawOk C ops (adrs C st.nb st.nb ops 0 ops ⟨st, []⟩) = true) : Drw C st ops := by
  unfold regOk at h1
  cases hd : distinctN (ops.filterMap (·.dst)) with
  | false => rw [hd] at h1; cases h1
  | true =>
    rw [hd] at h1
    simp only at h1
    simp only [drawOk, Bool.and_eq_true] at h2
    obtain ⟨⟨h3, h4⟩, h5⟩ := h2
    refine ⟨once_of hd, fun i o j b h6 h7 => by have := guardBack_spec ops 0 i o j b h1 h6 h7; omega, fun i o h6 e he hb => by have := edgesBack_spec ops 0 h4 i o h6 e he hb; omega, fun i o h6 h7 h8 => ?_, fun p q x y hpq hx hy => ?_⟩
    · have := List.all_eq_true.1 h5 o (List.mem_of_getElem? h6)
      cases hg : o.guard with
      | none => exact h7 hg
      | some a => rw [hg] at this; simp only [h8] at this; cases this
    · have had : ∀ j, j < ops.length → (adrs C st.nb st.nb ops 0 ops ⟨st, []⟩).getD j none = adT C st ops j := fun j hj => by
        have := adrs_get (C := C) (st := st) (ops := ops) ops 0 (by simp) j hj
        rw [T_zero, Nat.zero_add] at this; exact this
      rcases drawPairs_spec ops 0 h3 p q x y hpq hx hy with h | h
      · refine .inr fun D hD hdir => ?_
        simp only [Nat.zero_add] at h
        exact befGo_spec ops D hD ops [] [] rfl rfl (fun m o hm => by simp at hm) q y hy hdir p h
      · simp only [Nat.zero_add] at h
        rw [had p (List.getElem?_eq_some_iff.1 hx).1, had q (List.getElem?_eq_some_iff.1 hy).1] at h
        exact .inl h

theorem indep_spec {ops : List Oper} {ax ay : Option Nat} {x y : Oper} (h : indep C ops ax ay x y = true) : (∀ t, x.dst = some t → t ∉ opReads ops y) ∧ (∀ t, y.dst = some t → t ∉ opReads ops x) ∧
    (∀ b, opCls C x.op = 2 → opCls C y.op ≠ 0 → (ax = none ∨ ax = some b) → (ay = none ∨ ay = some b) → False) ∧ (∀ b, opCls C y.op = 2 → opCls C x.op ≠ 0 → (ax = none ∨ ax = some b) → (ay = none ∨ ay = some b) → False) := by
  unfold indep at h
  simp only [Bool.and_eq_true] at h
  obtain ⟨⟨h1, h2⟩, h3⟩ := h
  have ap : ∀ b, apartA ax ay = true → (ax = none ∨ ax = some b) → (ay = none ∨ ay = some b) → False := by
    intro b h q1 q2
    rcases q1 with rfl | rfl
    · cases h
    · rcases q2 with rfl | rfl
      · cases h
      · simp [apartA] at h
  refine ⟨fun t ht => disjN_spec h1 t (by simp [ht]), fun t ht => disjN_spec h2 t (by simp [ht]), fun b e e2 => ?_, fun b e e2 => ?_⟩
  · rw [e] at h3
    split at h3 <;> first | exact ap b h3 | simp_all
  · rw [e] at h3
    split at h3 <;> first | exact ap b h3 | simp_all

/-- what an operation that is ready sees is what it sees in the text's order -/
theorem ready_sees {st : St} {ops : List Oper} (W : Drw C st ops) {D : Nat → Prop} {r : RSt} {i : Nat} {o : Oper} (hC : Closed ops D) (M : Mt C st ops D r) (MT : Mt C st ops (· < i) (T C st ops i)) (hi : ops[i]? = some o) (hDi : ¬ D i)
    (hdir : ∀ e ∈ o.after.toList, Region.binds .any e = true → D e.on) :
    (∀ t ∈ opReads ops o, r.s.tm t = (T C st ops i).s.tm t ∧ gFind t r.env = gFind t (T C st ops i).env) ∧
    (opCls C o.op ≠ 0 → ∀ b, b < st.nb → (adT C st ops i = none ∨ adT C st ops i = some b) → r.s.bx b = (T C st ops i).s.bx b) ∧
    (opCls C o.op = 2 → ∀ b, (adT C st ops i = none ∨ adT C st ops i = some b) → ∀ j oj, ops[j]? = some oj → opCls C oj.op = 2 → (adT C st ops j = none ∨ adT C st ops j = some b) → (D j ↔ j < i)) ∧ ChainIn ops D o := by
  have hlt := (List.getElem?_eq_some_iff.1 hi).1
  -- later ones that hang on 'i' are not there
  have late : ∀ (j : Nat) (oj : Oper), ops[j]? = some oj → i < j → indep C ops (adT C st ops i) (adT C st ops j) o oj = true ∨ ¬ D j := by
    intro j oj hj hij
    rcases W.pair i j o oj hij hi hj with h | h
    · exact .inl h
    · exact .inr fun hD => hDi (h D hC (hC j oj hD hj))
  have early : ∀ (j : Nat) (oj : Oper), ops[j]? = some oj → j < i → indep C ops (adT C st ops j) (adT C st ops i) oj o = true ∨ D j := by
    intro j oj hj hij
    rcases W.pair j i oj o hij hj hi with h | h
    · exact .inl h
    · exact .inr (h D hC hdir)
  have cls : opCls C o.op ≠ 0 → ∀ b, (adT C st ops i = none ∨ adT C st ops i = some b) → ∀ j oj, ops[j]? = some oj → opCls C oj.op = 2 → (adT C st ops j = none ∨ adT C st ops j = some b) → (D j ↔ j < i) := by
    intro hc b hab j oj hj h2 haj
    constructor
    · intro hD
      refine Nat.lt_of_not_le fun hle => ?_
      by_cases e : i = j
      · subst e; exact hDi hD
      · rcases late j oj hj (by omega) with h | h
        · exact (indep_spec h).2.2.2 b h2 hc hab haj
        · exact h hD
    · intro hlt
      rcases early j oj hj hlt with h | h
      · exact ((indep_spec h).2.2.1 b h2 hc haj hab).elim
      · exact h
  refine ⟨fun t ht => ?_, fun hc b hb hab => M.bxB i b hb (by omega) (cls hc b hab), fun h2 => cls (by rw [h2]; simp), fun d x hm => ?_⟩
  · by_cases hex : ∃ (j : Nat) (oj : Oper), ops[j]? = some oj ∧ oj.dst = some t
    · obtain ⟨j, oj, hj, hd⟩ := hex
      have only : ∀ (j' : Nat) (oj' : Oper), ops[j']? = some oj' → oj'.dst = some t → j' = j := fun j' oj' h1 h2 => W.once j' j oj' oj t h1 hj h2 hd
      have away : ¬ D j → ¬ j < i → r.s.tm t = (T C st ops i).s.tm t ∧ gFind t r.env = gFind t (T C st ops i).env := by
        intro h1 h2
        have a1 : ∀ (j' : Nat) (oj' : Oper), D j' → ops[j']? = some oj' → oj'.dst ≠ some t := fun j' oj' h3 h4 h5 => h1 (only j' oj' h4 h5 ▸ h3)
        have a2 : ∀ (j' : Nat) (oj' : Oper), j' < i → ops[j']? = some oj' → oj'.dst ≠ some t := fun j' oj' h3 h4 h5 => h2 (only j' oj' h4 h5 ▸ h3)
        exact ⟨(M.tmO t a1).trans (MT.tmO t a2).symm, (M.eO t a1).trans (MT.eO t a2).symm⟩
      rcases Nat.lt_trichotomy j i with h | h | h
      · rcases early j oj hj h with h1 | h1
        · exact absurd ht ((indep_spec h1).1 t hd)
        · exact ⟨(M.tmI j oj t h1 hj hd).trans (MT.tmI j oj t h hj hd).symm, (M.eI j oj t h1 hj hd).trans (MT.eI j oj t h hj hd).symm⟩
      · subst h; exact away hDi (Nat.lt_irrefl _)
      · rcases late j oj hj h with h1 | h1
        · exact absurd ht ((indep_spec h1).2.1 t hd)
        · exact away h1 (by omega)
    · have a1 : ∀ (D' : Nat → Prop) (j' : Nat) (oj' : Oper), D' j' → ops[j']? = some oj' → oj'.dst ≠ some t := fun _ j' oj' _ h4 h5 => hex ⟨j', oj', h4, h5⟩
      exact ⟨(M.tmO t (a1 D)).trans (MT.tmO t (a1 _)).symm, (M.eO t (a1 D)).trans (MT.eO t (a1 _)).symm⟩
  · obtain ⟨j, oj, h1, h2, h3⟩ := chain_back W.back ops.length o.guard i (fun j b h => W.back i o j b hi h) d x hm
    rcases early j oj h2 h1 with h | h
    · exact absurd (List.mem_append_right _ (List.mem_map.2 ⟨(d, x), hm, rfl⟩)) ((indep_spec h).1 d h3)
    · exact ⟨j, oj, h, h2, h3⟩

theorem countP_set : ∀ (n : Nat) (p q : Nat → Bool) (i : Nat), i < n → p i = true → q i = false → (∀ j, j ≠ i → q j = p j) → (List.range n).countP q + 1 = (List.range n).countP p
  | 0, _, _, i, h, _, _, _ => by omega
  | n + 1, p, q, i, h, hp, hq, hne => by
    rw [List.range_succ, List.countP_append, List.countP_append]
    by_cases e : i = n
    · subst e
      have : (List.range i).countP q = (List.range i).countP p := List.countP_congr fun x hx => by rw [hne x (by simp at hx; omega)]
      rw [this]; simp [hp, hq]
    · have ih := countP_set n p q i (by omega) hp hq hne
      have : [n].countP q = [n].countP p := by simp [List.countP_cons, hne n (Ne.symm e)]
      rw [this]; omega

theorem getD_set {l : Array Bool} {i j : Nat} {d : Bool} (h : j ≠ i) : (l.setIfInBounds i true).getD j d = l.getD j d := by
  rw [Array.getD_eq_getD_getElem?, Array.getD_eq_getD_getElem?, Array.getElem?_setIfInBounds_ne (Ne.symm h)]

theorem draw_sim (hE : EOk C) (hG : GOk C) {st : St} {opsA : Array Oper} (W : Drw C st opsA.toList) (hst : st.ok = true) (hokn : (T C st opsA.toList opsA.toList.length).s.ok = true) {Q : Exit → Act → World → Prop} :
    ∀ (fuel : Nat) (listed : Array Bool) (g : Gh) (w : World) (r : RSt) (a : Act), listed.size = opsA.size → (List.range opsA.size).countP (fun j => !listed.getD j true) ≤ fuel → Closed opsA.toList (fun j => listed.getD j false = true) →
      Mt C st opsA.toList (fun j => listed.getD j false = true) r → RelR g w st.nb opsA.toList (fun j => listed.getD j false = true) r a →
      (∀ a' g' w' r' D', Ext g w g' w' → (∀ j, j < opsA.toList.length → D' j) → Mt C st opsA.toList D' r' → RelR g' w' st.nb opsA.toList D' r' a' → Q .normal a' w') →
      wpAny C.P .any opsA Q fuel listed a w := by
  intro fuel
  induction fuel with
  | zero =>
    intro listed g w r a hsz hc hC M R hQ
    have hall : ∀ j, j < opsA.size → listed.getD j true = true := by
      intro j hj
      have := List.countP_eq_zero.1 (Nat.le_zero.1 hc) j (by simpa using hj)
      simpa using this
    refine ⟨?_, hQ a g w r _ (Ext.refl g w) (fun j hj => ?_) M R⟩
    · unfold Region.ready
      rw [List.filter_eq_nil_iff]
      intro j hj
      simp [hall j (by simpa using hj)]
    · have := hall j (by simpa using hj)
      rw [Array.getD] at this ⊢
      have hj' : j < listed.size := by rw [hsz]; simpa using hj
      simpa [hj'] using this
  | succ fuel ih =>
    intro listed g w r a hsz hc hC M R hQ
    refine ⟨fun hr => hQ a g w r _ (Ext.refl g w) ?_ M R, fun i hi => ?_⟩
    · -- nothing is ready: all is listed
      intro j
      induction j using Nat.strongRecOn with
      | _ j ihj =>
        intro hj
        refine Classical.byContradiction fun hn => ?_
        have hjs : j < opsA.size := by simpa using hj
        have hoj : opsA[j]? = some opsA[j] := Array.getElem?_eq_getElem hjs
        have : j ∈ Region.ready .any opsA listed := by
          unfold Region.ready
          rw [List.mem_filter]
          refine ⟨by simpa using hjs, ?_⟩
          have h1 : listed.getD j true = false := by
            rw [Array.getD] at hn ⊢
            have hj' : j < listed.size := by rw [hsz]; exact hjs
            simpa [hj'] using hn
          rw [h1, hoj]
          simp only [Bool.not_false, Bool.true_and, Option.map_some, Option.getD_some]
          rw [← Array.all_toList, List.all_eq_true]
          intro e he
          cases hb : Region.binds .any e with
          | false => rfl
          | true =>
            have hlt := W.edge j opsA[j] (by rw [Array.getElem?_toList]; exact hoj) e he hb
            simpa using ihj e.on hlt (by omega)
        rw [hr] at this; cases this
    · unfold Region.ready at hi
      rw [List.mem_filter] at hi
      obtain ⟨hir, hi2⟩ := hi
      have his : i < opsA.size := by simpa using hir
      have hoi : opsA[i]? = some opsA[i] := Array.getElem?_eq_getElem his
      have hoi' : opsA.toList[i]? = some opsA[i] := by rw [Array.getElem?_toList]; exact hoi
      rw [hoi] at hi2
      simp only [Option.map_some, Option.getD_some, Bool.and_eq_true, Bool.not_eq_true'] at hi2
      obtain ⟨hnl, hdir0⟩ := hi2
      have hil : i < listed.size := by rw [hsz]; exact his
      have hDi : ¬ listed.getD i false = true := by
        rw [Array.getD] at hnl ⊢
        simp only [hil, dite_true] at hnl ⊢
        rw [hnl]; simp
      have hdir : ∀ e ∈ opsA[i].after.toList, Region.binds .any e = true → listed.getD e.on false = true := by
        intro e he hb
        rw [← Array.all_toList, List.all_eq_true] at hdir0
        have := hdir0 e he
        rw [hb] at this
        simpa using this
      have MT := mt_text hG.le hst W.gd W.once hokn i (by simpa using Nat.le_of_lt his)
      obtain ⟨A1, A2, A3, hch⟩ := ready_sees W hC M MT hoi' hDi hdir
      have M' := step_mt hG.le W.gd W.once M MT hoi' hDi hokn A1 A2 A3
      have hDset : ∀ j, ((listed.setIfInBounds i true).getD j false = true ↔ (listed.getD j false = true ∨ j = i)) := by
        intro j
        by_cases e : j = i
        · subst e; simp [Array.getD, hil]
        · rw [getD_set e]; simp [e]
      have hfun : (fun j => (listed.setIfInBounds i true).getD j false = true) = fun j => listed.getD j false = true ∨ j = i := funext fun j => propext (hDset j)
      have hstep := step_sim (K := wpAny C.P .any opsA Q fuel (listed.setIfInBounds i true)) (Q := Q) hE hG R hoi' hDi W.once hch M'.ok (fun a' g' w' hx R' => by
        refine ih (listed.setIfInBounds i true) g' w' _ a' (by simpa using hsz) ?_ ?_ (by rw [hfun]; exact M') (by rw [hfun]; exact R') fun a'' g'' w'' r'' D'' hx' => hQ a'' g'' w'' r'' D'' (hx.trans hx')
        · have := countP_set opsA.size (fun j => !listed.getD j true) (fun j => !(listed.setIfInBounds i true).getD j true) i his (by simp [hnl]) (by simp [Array.getD, hil]) (fun j hj => by rw [getD_set hj])
          omega
        · intro j oj hj hoj e he hb
          rw [hDset] at hj ⊢
          rcases hj with hj | hj
          · exact .inl (hC j oj hj hoj e he hb)
          · subst hj
            rw [hoi'] at hoj; cases hoj
            exact .inl (hdir e he hb))
      unfold wpOp
      rw [hoi]
      simp only
      split
      · rename_i hw; rw [if_pos hw] at hstep; exact .inl hstep
      · rename_i hw; rw [if_neg hw] at hstep; exact hstep

end Go.Im

/-
  Regions of both kinds: sound.
-/
namespace Go.Im
variable {C : Cfg} {g : Gh} {w : World}

theorem mt_all {st : St} {ops : List Oper} {D : Nat → Prop} {r r' : RSt} (M : Mt C st ops D r) (hD : ∀ j, j < ops.length → D j) (M' : Mt C st ops (· < ops.length) r') :
    (∀ t, r.s.tm t = r'.s.tm t) ∧ (∀ t, gFind t r.env = gFind t r'.env) ∧ (∀ b, r.s.bx b = r'.s.bx b) := by
  have one : ∀ t, (∃ (j : Nat) (o : Oper), ops[j]? = some o ∧ o.dst = some t) ∨ ∀ (D' : Nat → Prop) (j : Nat) (o : Oper), D' j → ops[j]? = some o → o.dst ≠ some t := by
    intro t
    by_cases h : ∃ (j : Nat) (o : Oper), ops[j]? = some o ∧ o.dst = some t
    · exact .inl h
    · exact .inr fun _ j o _ h1 h2 => h ⟨j, o, h1, h2⟩
  refine ⟨fun t => ?_, fun t => ?_, fun b => ?_⟩
  · rcases one t with ⟨j, o, h1, h2⟩ | h
    · have hj := (List.getElem?_eq_some_iff.1 h1).1
      exact (M.tmI j o t (hD j hj) h1 h2).trans (M'.tmI j o t hj h1 h2).symm
    · exact (M.tmO t (h D)).trans (M'.tmO t (h _)).symm
  · rcases one t with ⟨j, o, h1, h2⟩ | h
    · have hj := (List.getElem?_eq_some_iff.1 h1).1
      exact (M.eI j o t (hD j hj) h1 h2).trans (M'.eI j o t hj h1 h2).symm
    · exact (M.eO t (h D)).trans (M'.eO t (h _)).symm
  · by_cases hb : b < st.nb
    · have a1 : ∀ (D' : Nat → Prop), (∀ j, j < ops.length → D' j) → ∀ (j : Nat) (o : Oper), ops[j]? = some o → opCls C o.op = 2 → (adT C st ops j = none ∨ adT C st ops j = some b) → (D' j ↔ j < ops.length) := fun D' hD' j o h _ _ =>
        ⟨fun _ => (List.getElem?_eq_some_iff.1 h).1, hD' j⟩
      exact (M.bxB ops.length b hb (Nat.le_refl _) (a1 D hD)).trans (M'.bxB ops.length b hb (Nat.le_refl _) (a1 _ fun _ h => h)).symm
    · by_cases h : ∃ j, j < ops.length ∧ InSlot st.nb j b
      · obtain ⟨j, h1, h2⟩ := h
        exact (M.bxN j b (hD j h1) h2).trans (M'.bxN j b h1 h2).symm
      · exact (M.bxO b (by omega) fun j hj hs => h ⟨j, M.lt j hj, hs⟩).trans (M'.bxO b (by omega) fun j hj hs => h ⟨j, hj, hs⟩).symm

theorem sound_region (hm : C.P.follows .mixedOrders = true) (hE : EOk C) (hG : GOk C) {id : Nat} {opsA : Array Oper} {draw : Bool} {st : St} {a : Act} {Q : Exit → Act → World → Prop} (R : RelSt g w st a) (hok : (evRegion C opsA draw st).ok = true)
    (hQ : ∀ a' g' w', Ext g w g' w' → RelSt g' w' (evRegion C opsA draw st) a' → Q .normal a' w') : (Code.region id opsA draw).wp C.P Q a w := by
  cases draw with
  | false => exact sound_region_seq hE hG R hok hQ
  | true =>
    unfold evRegion at hok hQ
    simp only at hok hQ
    obtain ⟨hok1, hreg⟩ := andB_true hok
    cases hr : regOk opsA.toList with
    | false => rw [hr] at hreg; cases hreg
    | true =>
      rw [hr] at hreg
      simp only at hreg
      have W := drw_of hr hreg
      rw [← T_len] at hok1 hQ
      have hst : st.ok = true := by
        have := T_ok hok1 (Nat.zero_le _)
        rw [T_zero] at this; exact this
      have hfalse : (fun j => (Array.replicate opsA.size false).getD j false = true) = fun _ => False := by
        funext j
        by_cases h : j < opsA.size <;> simp [Array.getD, h]
      have M0 : Mt C st opsA.toList (fun j => (Array.replicate opsA.size false).getD j false = true) ⟨st, []⟩ := by
        have := mt_text hG.le hst W.gd W.once hok1 0 (Nat.zero_le _)
        rw [T_zero] at this
        rw [hfalse]
        have e : (fun j : Nat => j < 0) = fun _ => False := by funext j; simp
        rw [e] at this; exact this
      have hE0 := Ext.drew g w
      have R0 : RelR g w.drew st.nb opsA.toList (fun j => (Array.replicate opsA.size false).getD j false = true) ⟨st, []⟩ a := by
        rw [hfalse]
        exact RelR.start R.inv.drew ⟨fun b cs hb => by
          obtain ⟨blk, cells, T, h1, h2, h3⟩ := R.bx.at_ b cs hb
          exact ⟨blk, cells, T, h1, h2, h3.mono (hE0.le R.inv)⟩⟩ (fun t => (R.tm t).mono (hE0.le R.inv)) R.size R.defers R.free
      refine wp_region_any hm (draw_sim hE hG W hst hok1 opsA.size (Array.replicate opsA.size false) g w.drew ⟨st, []⟩ a (by simp) ?_ ?_ M0 R0 fun a' g' w' r' D' hx hD M R' => ?_)
      · exact Nat.le_trans List.countP_le_length (by simp)
      · intro i o hi; rw [show ((Array.replicate opsA.size false).getD i false = true) = False from congrFun hfalse i] at hi; exact hi.elim
      · have MT := mt_text hG.le hst W.gd W.once hok1 opsA.toList.length (Nat.le_refl _)
        obtain ⟨h1, h2, h3⟩ := mt_all M hD MT
        refine hQ a' g' w' (hE0.trans hx) ⟨R'.inv, ⟨fun b cs hb => R'.bx.at_ b cs ?_⟩, fun t => ?_, ?_, R'.defers, fun b hb => ?_⟩
        · rw [h3]; exact hb
        · have key : ∀ (l : List Nat) (tm : Nat → PVal), undefAll l tm t = (match memN t l with | true => .undef | false => tm t) := by
            intro l tm
            unfold undefAll
            cases l <;> rfl
          simp only
          rw [key]
          cases hmm : memN t ((T C st opsA.toList opsA.toList.length).env.map (·.1)) with
          | true => exact .undef _
          | false =>
            have := gFind_mem hmm
            rw [← h2] at this
            simp only
            rw [← h1]
            exact R'.tm t this
        · exact R'.size.trans M.n
        · simp only at hb
          cases hq : g'.β b with
          | none => rfl
          | some x =>
            obtain ⟨i, hi, h5, h6⟩ := R'.free b (by omega) (by rw [hq]; simp)
            have := M.lt i hi
            simp only [stride] at *
            omega
end Go.Im
