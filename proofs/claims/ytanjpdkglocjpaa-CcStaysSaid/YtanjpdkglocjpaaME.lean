/-
  What a piece of code leaves as it was: slots that it does not write, boxes that it does not mark.
-/
import Derived.Test.YtanjpdkglocjpaaMD
import Derived.LoopN
import Derived.KernelRfl

namespace Go.Im
variable {C : Cfg}

/-- below 'lo': no box comes, and what is not marked is as it was -/
structure Turn (lo : Nat) (d : List (Nat × Nat)) (bx bx' : Boxes) : Prop where
  none : ∀ b, b < lo → bx b = none → bx' b = none
  some : ∀ b c0 c1, b < lo → bx b = some c0 → bx' b = some c1 → (∀ k, k < c1.length → memP b k d = true) ∨ (c0.length = c1.length ∧ ∀ k : Nat, memP b k d = false → c1[k]? = c0[k]?)

theorem Turn.refl (lo : Nat) (d : List (Nat × Nat)) (bx : Boxes) : Turn lo d bx bx := ⟨fun _ _ h => h, fun b c0 c1 _ h h' => by rw [h] at h'; cases h'; exact .inr ⟨rfl, fun _ _ => rfl⟩⟩
theorem Turn.mono {lo : Nat} {d d' : List (Nat × Nat)} {bx bx' : Boxes} (h : Turn lo d bx bx') (hd : ∀ x ∈ d, x ∈ d') : Turn lo d' bx bx' := by
  have hm : ∀ b k, memP b k d = true → memP b k d' = true := fun b k h => (memP_iff b k d').2 (hd _ ((memP_iff b k d).1 h))
  refine ⟨h.none, fun b c0 c1 hb h0 h1 => ?_⟩
  rcases h.some b c0 c1 hb h0 h1 with h2 | ⟨h2, h3⟩
  · exact .inl fun k hk => hm b k (h2 k hk)
  · refine .inr ⟨h2, fun k hk => h3 k ?_⟩
    cases hq : memP b k d with
    | false => rfl
    | true => rw [hm b k hq] at hk; cases hk
theorem Turn.trans {lo : Nat} {d d' : List (Nat × Nat)} {bx bx1 bx2 : Boxes} (h : Turn lo d bx bx1) (k : Turn lo d' bx1 bx2) (hd : ∀ x ∈ d, x ∈ d') : Turn lo d' bx bx2 := by
  have h := h.mono hd
  refine ⟨fun b hb h0 => k.none b hb (h.none b hb h0), fun b c0 c2 hb h0 h2 => ?_⟩
  cases h1 : bx1 b with
  | none => rw [k.none b hb h1] at h2; cases h2
  | some c1 =>
    rcases k.some b c1 c2 hb h1 h2 with q | ⟨q1, q2⟩
    · exact .inl q
    · rcases h.some b c0 c1 hb h0 h1 with p | ⟨p1, p2⟩
      · exact .inl fun j hj => p j (by omega)
      · exact .inr ⟨p1.trans q1, fun j hj => (q2 j hj).trans (p2 j hj)⟩
theorem Turn.upd_new {lo : Nat} {d : List (Nat × Nat)} {bx bx' : Boxes} {n : Nat} {v : Option (List PVal)} (h : Turn lo d bx bx') (hn : lo ≤ n) : Turn lo d bx (upd bx' n v) :=
  ⟨fun b hb h0 => by rw [upd_other _ _ _ _ (by omega)]; exact h.none b hb h0, fun b c0 c1 hb h0 h1 => by rw [upd_other _ _ _ _ (by omega)] at h1; exact h.some b c0 c1 hb h0 h1⟩

theorem newBoxes_turn {lo : Nat} {d : List (Nat × Nat)} {bx : Boxes} {f : Nat → Option Nat} : ∀ (cs : List (List PVal)) (n : Nat) (bx' : Boxes), lo ≤ n → Turn lo d bx bx' → Turn lo d bx (newBoxes f bx' n cs)
  | [], n, bx', _, h => h
  | c :: cs, n, bx', hn, h => by simp only [newBoxes]; exact newBoxes_turn cs (n + 1) _ (by omega) (h.upd_new hn)
theorem putBoxes_turn {lo : Nat} {f : Nat → Option Nat} : ∀ (ids : List Nat) (cs : List (List PVal)) (bx : Boxes) (d : List (Nat × Nat)), ids.length = cs.length → (∀ b ∈ ids, bx b ≠ none) → Turn lo (dirtyBoxes ids cs d) bx (putBoxes f bx ids cs) ∧ (∀ x ∈ d, x ∈ dirtyBoxes ids cs d)
  | [], cs, bx, d, hl, h => ⟨by simp only [putBoxes]; exact .refl _ _ _, fun x hx => (dirtyBoxes_mem [] cs d x).1 hx⟩
  | b :: r, [], bx, d, hl, h => by simp at hl
  | b :: r, c :: l, bx, d, hl, h => by
    have ih := putBoxes_turn (lo := lo) (f := f) r l (upd bx b (some (c.map (mapLeaf f)))) (dirtyAll b c.length d) (by simpa using hl) (fun b' hb' => by
      by_cases e : b' = b
      · subst e; rw [upd_same]; simp
      · rw [upd_other _ _ _ _ e]; exact h b' (List.mem_cons_of_mem _ hb'))
    simp only [putBoxes, dirtyBoxes]
    refine ⟨?_, fun x hx => ih.2 x ((dirtyAll_mem b c.length d x).2 (.inr hx))⟩
    refine Turn.trans (d := dirtyAll b c.length d) ⟨fun b' hb' h0 => ?_, fun b' c0 c1 hb' h0 h1 => ?_⟩ ih.1 ih.2
    · by_cases e : b' = b
      · subst e; exact absurd h0 (h b' (by simp))
      · rw [upd_other _ _ _ _ e]; exact h0
    · by_cases e : b' = b
      · subst e
        rw [upd_same] at h1; cases h1
        refine .inl fun k hk => (memP_iff _ _ _).2 ((dirtyAll_mem _ _ _ _).2 (.inl ⟨rfl, by simpa using hk⟩))
      · rw [upd_other _ _ _ _ e, h0] at h1; cases h1
        exact .inr ⟨rfl, fun _ _ => rfl⟩

theorem evOp_turn {o : Oper} {rd : Operand → PVal} {lim new lo : Nat} {bx : Boxes} {dirty : List (Nat × Nat)} (hn : lo ≤ new) (hok : (evOp C rd lim new bx dirty o).ok = true) :
    Turn lo (evOp C rd lim new bx dirty o).dirty bx (evOp C rd lim new bx dirty o).bx ∧ (∀ x ∈ dirty, x ∈ (evOp C rd lim new bx dirty o).dirty) := by
  obtain ⟨dst, op, ty, pos, after, guard⟩ := o
  have same : ∀ (E : Eff), E.bx = bx → E.dirty = dirty → Turn lo E.dirty bx E.bx ∧ (∀ x ∈ dirty, x ∈ E.dirty) := fun E h1 h2 => by rw [h1, h2]; exact ⟨.refl _ _ _, fun _ h => h⟩
  cases op <;> (try (simp only [evOp] at hok; cases hok; done)) <;> (try (exact same (evOp C rd lim new bx dirty ⟨dst, _, ty, pos, after, guard⟩) rfl rfl))
  case pick c a b =>
    simp only [evOp]
    cases rd c <;> exact same _ rfl rfl
  case alloc t =>
    simp only [evOp]
    cases zeroCells C t with
    | none => exact same _ rfl rfl
    | some z => exact ⟨(Turn.refl _ _ _).upd_new hn, fun x h => h⟩
  case box t x => exact ⟨(Turn.refl _ _ _).upd_new hn, fun x h => h⟩
  case load t a =>
    simp only [evOp] at hok ⊢
    cases hp : rd a <;> (try exact same _ rfl rfl)
    rename_i b off
    simp only at hok ⊢
    cases hlt : Nat.blt b lim <;> (try exact same _ rfl rfl)
    cases hb : bx b <;> exact same _ rfl rfl
  case store t a x =>
    simp only [evOp] at hok ⊢
    cases hp : rd a <;> (rw [hp] at hok) <;> (try (cases hok; done))
    rename_i b off
    simp only at hok ⊢
    cases hlt : Nat.blt b lim <;> (rw [hlt] at hok) <;> (try (cases hok; done))
    simp only at hok ⊢
    cases hb : bx b with
    | none => rw [hb] at hok; cases hok
    | some cs =>
      rw [hb] at hok
      simp only at hok ⊢
      cases h1 : Nat.beq (rd x).cells.length (C.P.cellsOf t) <;> (try (rw [h1] at hok; cases hok; done))
      cases h2 : allOne (rd x).cells <;> (try (rw [h1, h2] at hok; cases hok; done))
      cases h3 : (C.P.info? t).isSome <;> (try (rw [h1, h2, h3] at hok; cases hok; done))
      rw [h1, h2, h3] at hok
      simp only at hok
      have hle : off + (rd x).cells.length ≤ cs.length := Nat.le_of_ble_eq_true hok
      refine ⟨⟨fun b' hb' h0 => ?_, fun b' c0 c1 hb' h h' => ?_⟩, fun y hy => List.mem_append.2 (.inr hy)⟩
      · by_cases e : b' = b
        · subst e; rw [hb] at h0; cases h0
        · rw [upd_other _ _ _ _ e]; exact h0
      · try simp only at h'
        by_cases e : b' = b
        · subst e
          rw [upd_same] at h'; cases h'
          rw [hb] at h; cases h
          refine .inr ⟨?_, fun k hk => ?_⟩
          · rw [splice_eq _ _ _ (by omega)]; simp; omega
          · refine splice_get cs off _ k ?_ hle
            rw [memP_append] at hk
            have hk1 := (Bool.or_eq_false_iff.1 hk).1
            rcases Nat.lt_or_ge k off with h5 | h5
            · exact .inl h5
            · refine .inr (Nat.le_of_not_lt fun h6 => ?_)
              have : memP b' k ((List.range (rd x).cells.length).map fun k => (b', off + k)) = true := by
                rw [memP_iff]
                exact List.mem_map.2 ⟨k - off, by simp; omega, by simp; omega⟩
              rw [this] at hk1; cases hk1
        · rw [upd_other _ _ _ _ e, h] at h'; cases h'; exact .inr ⟨rfl, fun _ _ => rfl⟩
  case nilCheck x =>
    simp only [evOp]
    cases rd x <;> exact same _ rfl rfl
  case fieldAddr s x f =>
    simp only [evOp]
    cases fld C s f with
    | none => exact same _ rfl rfl
    | some q => cases rd x <;> exact same _ rfl rfl
  case field s x f =>
    simp only [evOp]
    cases fld C s f with
    | none => exact same _ rfl rfl
    | some q => cases rd x <;> exact same _ rfl rfl
  case extract x i =>
    simp only [evOp]
    cases rd x <;> exact same _ rfl rfl
  case makeFunc fn first cap =>
    refine same (evOp C rd lim new bx dirty ⟨dst, .makeFunc fn first cap, ty, pos, after, guard⟩) ?_ ?_
    · cases fn <;> cases hf : first.toList <;> simp only [evOp, hf]
    · cases fn <;> cases hf : first.toList <;> simp only [evOp, hf]
  case call c =>
    obtain ⟨callee, args, argTypes⟩ := c
    cases callee with
    | invoke r m => simp only [evOp] at hok; cases hok
    | builtin bb =>
      refine same (evOp C rd lim new bx dirty ⟨dst, .call ⟨.builtin bb, args, argTypes⟩, ty, pos, after, guard⟩) ?_ ?_
      · simp only [evOp]
        split <;> (try rfl)
        · split <;> rfl
        · rename_i he; cases he
      · simp only [evOp]
        split <;> (try rfl)
        · split <;> rfl
        · rename_i he; cases he
    | value f =>
      simp only [evOp] at hok ⊢
      cases hf : rd f <;> (rw [hf] at hok) <;> (try (cases hok; done))
      rename_i gf cap
      simp only at hok ⊢
      generalize hA : args.toList.map rd ++ cap = A at hok ⊢
      unfold callEff at hok ⊢
      simp only at hok ⊢
      generalize hids : dedup (A.flatMap ptrs) [] = ids at hok ⊢
      cases hlim : ids.all (Nat.blt · lim) with
      | false => exact same _ rfl rfl
      | true =>
      simp only [hlim] at hok ⊢
      cases hbs : boxesAt bx ids with
      | none => exact same _ rfl rfl
      | some bs =>
        simp only [hbs] at hok ⊢
        obtain ⟨hbl, hbg⟩ := boxesAt_get bx ids bs hbs
        split <;> (try exact same _ rfl rfl)
        rename_i ok v bs' hS
        rw [hS] at hok
        simp only at hok ⊢
        split at hok
        · split <;> exact same _ rfl rfl
        · exact same _ rfl rfl
        have hle : ids.length ≤ bs'.length := by
          split at hok <;> (try (cases hok; done))
          rename_i q1 q2
          exact Nat.le_of_ble_eq_true q1
        have hput := putBoxes_turn (lo := lo) (f := fun k => match ids[k]? with | some b => some b | none => some (new + (k - ids.length))) ids (bs'.take ids.length) bx dirty (by simp; omega) (fun b hb => by
          obtain ⟨k, hk⟩ := List.mem_iff_getElem?.1 hb
          have hkl : k < bs.length := by rw [hbl]; exact (List.getElem?_eq_some_iff.1 hk).1
          obtain ⟨b', h1, h2⟩ := hbg k bs[k] (List.getElem?_eq_getElem hkl)
          rw [hk] at h1; cases h1
          rw [h2]; simp)
        have hdt : ∀ (ids : List Nat) (bs' : List (List PVal)) (d : List (Nat × Nat)), dirtyBoxes ids (bs'.take ids.length) d = dirtyBoxes ids bs' d := by
          intro ids
          induction ids with
          | nil => intro bs' d; simp [dirtyBoxes]
          | cons b r ih => intro bs' d; cases bs' with
            | nil => simp
            | cons c l => simp [dirtyBoxes, ih]
        rw [hdt] at hput
        exact ⟨newBoxes_turn _ _ _ hn hput.1, hput.2⟩

theorem evOp_dirty_sub {o : Oper} {rd : Operand → PVal} {lim new : Nat} {bx : Boxes} {dirty : List (Nat × Nat)} : ∀ x ∈ dirty, x ∈ (evOp C rd lim new bx dirty o).dirty := by
  obtain ⟨dst, op, ty, pos, after, guard⟩ := o
  have same : ∀ (E : Eff), E.dirty = dirty → (∀ x ∈ dirty, x ∈ E.dirty) := fun E h2 => by rw [h2]; exact fun _ h => h
  cases op <;> (try (exact same (evOp C rd lim new bx dirty ⟨dst, _, ty, pos, after, guard⟩) rfl))
  case pick c a b => simp only [evOp]; cases rd c <;> exact same _ rfl
  case alloc t => simp only [evOp]; cases zeroCells C t <;> exact same _ rfl
  case load t a =>
    simp only [evOp]
    cases rd a <;> (try exact same _ rfl)
    rename_i b off
    simp only
    cases Nat.blt b lim <;> (try exact same _ rfl)
    cases bx b <;> exact same _ rfl
  case store t a x =>
    simp only [evOp]
    cases rd a <;> (try exact same _ rfl)
    rename_i b off
    simp only
    cases Nat.blt b lim <;> (try exact same _ rfl)
    cases bx b
    · exact same _ rfl
    · exact fun y hy => List.mem_append.2 (.inr hy)
  case nilCheck x => simp only [evOp]; cases rd x <;> exact same _ rfl
  case fieldAddr s x f => simp only [evOp]; cases fld C s f with
    | none => exact same _ rfl
    | some q => cases rd x <;> exact same _ rfl
  case field s x f => simp only [evOp]; cases fld C s f with
    | none => exact same _ rfl
    | some q => cases rd x <;> exact same _ rfl
  case extract x i => simp only [evOp]; cases rd x <;> exact same _ rfl
  case makeFunc fn first cap =>
    refine same (evOp C rd lim new bx dirty ⟨dst, .makeFunc fn first cap, ty, pos, after, guard⟩) ?_
    cases fn <;> cases hf : first.toList <;> simp only [evOp, hf]
  case call c =>
    obtain ⟨callee, args, argTypes⟩ := c
    cases callee with
    | invoke r m => exact same _ rfl
    | builtin bb =>
      refine same (evOp C rd lim new bx dirty ⟨dst, .call ⟨.builtin bb, args, argTypes⟩, ty, pos, after, guard⟩) ?_
      simp only [evOp]
      split <;> (try rfl)
      · split <;> rfl
      · rename_i he; cases he
    | value f =>
      simp only [evOp]
      cases rd f <;> (try exact same _ rfl)
      simp only
      unfold callEff
      simp only
      split
      · exact same _ rfl
      · split
        · exact same _ rfl
        · split
          · split <;> exact same _ rfl
          · exact same _ rfl
          · exact fun y hy => (dirtyBoxes_mem _ _ dirty y).1 hy

theorem mergeBoxes_turn {lo : Nat} {d : List (Nat × Nat)} {x : Bool} {b0 b1 : Boxes} : Turn lo d b0 (mergeBoxes x d b0 b1) := by
  refine ⟨fun b _ h => by simp only [mergeBoxes, h, mergeBox], fun b c0 c1 _ h h' => ?_⟩
  simp only [mergeBoxes, mergeBox] at h'
  rw [h] at h'
  cases hb1 : b1 b with
  | none => rw [hb1] at h'; cases h'
  | some cb =>
    rw [hb1] at h'
    simp only at h'
    split at h' <;> (try (cases h'; done))
    rename_i e1 e2
    simp only [Option.some.injEq] at h'
    subst h'
    have e1 := Nat.eq_of_beq_eq_true e1
    have key : ∀ (k : Nat) (x0 x1 x2 : List PVal), x0.length = x1.length → x0.length = x2.length → x0.length = (mergeCells x d b k x0 x1 x2).length ∧ ∀ j : Nat, memP b (k + j) d = false → (mergeCells x d b k x0 x1 x2)[j]? = x0[j]? := by
      intro k x0
      induction x0 generalizing k with
      | nil => intro x1 x2 _ _; simp [mergeCells]
      | cons y0 x0 ih =>
        intro x1 x2 h1 h2
        cases x1 with
        | nil => simp at h1
        | cons y1 x1 =>
          cases x2 with
          | nil => simp at h2
          | cons y2 x2 =>
            simp only [mergeCells]
            have := ih (k + 1) x1 x2 (by simpa using h1) (by simpa using h2)
            refine ⟨by simpa using this.1, fun j hj => ?_⟩
            cases j with
            | zero =>
              have : memP b k d = false := by simpa using hj
              simp [this]
            | succ j => simpa using this.2 j (by rw [show k + 1 + j = k + (j + 1) from by omega]; exact hj)
    have := key 0 c0 cb c0 e1 rfl
    exact .inr ⟨this.1, fun k hk => this.2 k (by simpa using hk)⟩

theorem stepOp_turn {lim nb0 i lo : Nat} {ops : List Oper} {o : Oper} {r : RSt} (hlo : lo ≤ nb0) (hok : (stepOp C lim nb0 ops i o r).s.ok = true) :
    Turn lo (stepOp C lim nb0 ops i o r).s.dirty r.s.bx (stepOp C lim nb0 ops i o r).s.bx ∧ (∀ x ∈ r.s.dirty, x ∈ (stepOp C lim nb0 ops i o r).s.dirty) ∧ (∀ t, o.dst ≠ some t → (stepOp C lim nb0 ops i o r).s.tm t = r.s.tm t) := by
  have htm : ∀ t, o.dst ≠ some t → (stepOp C lim nb0 ops i o r).s.tm t = r.s.tm t := by
    intro t ht
    unfold stepOp
    simp only
    split <;> (simp only []; rw [putTm_get, if_neg ht])
  refine ⟨?_, ?_, htm⟩
  · unfold stepOp at hok ⊢
    simp only at hok ⊢
    cases hg : chain ops ops.length o.guard with
    | nil =>
      rw [hg] at hok
      simp only at hok ⊢
      have h1 := (andB_true hok).2
      split at h1 <;> (try (cases h1; done))
      exact (evOp_turn (by omega) h1).1
    | cons q qs =>
      simp only
      split
      · exact mergeBoxes_turn
      · exact .refl _ _ _
  · unfold stepOp
    simp only
    split <;> exact evOp_dirty_sub

theorem goOps_turn {lim nb0 lo : Nat} {ops : List Oper} (hlo : lo ≤ nb0) : ∀ (l : List Oper) (i : Nat) (r : RSt), (goOps C lim nb0 ops i l r).s.ok = true →
    Turn lo (goOps C lim nb0 ops i l r).s.dirty r.s.bx (goOps C lim nb0 ops i l r).s.bx ∧ (∀ x ∈ r.s.dirty, x ∈ (goOps C lim nb0 ops i l r).s.dirty) ∧ (∀ t, t ∉ l.filterMap (·.dst) → (goOps C lim nb0 ops i l r).s.tm t = r.s.tm t) ∧
    (∀ t gs, gFind t r.env = none → gFind t (goOps C lim nb0 ops i l r).env = some gs → t ∈ l.filterMap (·.dst))
  | [], i, r, _ => ⟨.refl _ _ _, fun _ h => h, fun _ _ => rfl, fun t gs h h' => by simp only [goOps] at h'; rw [h] at h'; cases h'⟩
  | o :: l, i, r, hok => by
    simp only [goOps] at hok ⊢
    have h1 := stepOp_turn (C := C) hlo (goOps_ok l (i + 1) _ hok)
    have h2 := goOps_turn hlo l (i + 1) (stepOp C lim nb0 ops i o r) hok
    refine ⟨h1.1.trans h2.1 h2.2.1, fun x hx => h2.2.1 x (h1.2.1 x hx), fun t ht => ?_, fun t gs h h' => ?_⟩
    · rw [List.filterMap_cons] at ht
      cases hd : o.dst with
      | none => rw [hd] at ht; rw [h2.2.2.1 t ht, h1.2.2 t (by rw [hd]; simp)]
      | some d =>
        rw [hd] at ht
        simp only [List.mem_cons, not_or] at ht
        rw [h2.2.2.1 t ht.2, h1.2.2 t (by rw [hd]; intro e; cases e; exact ht.1 rfl)]
    · rw [List.filterMap_cons]
      have henv : o.dst = some t ∨ gFind t (stepOp C lim nb0 ops i o r).env = none := by
        by_cases e : o.dst = some t
        · exact .inl e
        · refine .inr ?_
          unfold stepOp
          simp only
          split
          · exact h
          · cases hd : o.dst with
            | none => exact h
            | some d =>
              simp only [gFind]
              split
              · rename_i hbq; exact absurd (by rw [hd, Nat.eq_of_beq_eq_true hbq]) e
              · exact h
      rcases henv with e | e
      · rw [e]; simp
      · have := h2.2.2.2 t gs e h'
        cases o.dst with
        | none => exact this
        | some d => exact List.mem_cons_of_mem _ this

theorem gFind_of_mem {t : Nat} : ∀ {env : GEnv}, t ∈ env.map (·.1) → ∃ gs, gFind t env = some gs
  | [], h => by simp at h
  | (s, gs) :: env, h => by
    simp only [gFind]
    cases hb : Nat.beq t s with
    | true => exact ⟨gs, rfl⟩
    | false =>
      simp only [List.map_cons, List.mem_cons] at h
      rcases h with h | h
      · subst h; simp at hb
      · exact gFind_of_mem h

theorem evRegion_turn {lo : Nat} {opsA : Array Oper} {draw : Bool} {st : St} (hlo : lo ≤ st.nb) (hok : (evRegion C opsA draw st).ok = true) :
    Turn lo (evRegion C opsA draw st).dirty st.bx (evRegion C opsA draw st).bx ∧ (∀ x ∈ st.dirty, x ∈ (evRegion C opsA draw st).dirty) ∧ (∀ t, t ∉ opsA.toList.filterMap (·.dst) → (evRegion C opsA draw st).tm t = st.tm t) ∧
    st.nb ≤ (evRegion C opsA draw st).nb ∧ (evRegion C opsA draw st).n = st.n ∧ st.ok = true := by
  unfold evRegion at hok ⊢
  simp only at hok ⊢
  have hok1 := (andB_true hok).1
  have h := goOps_turn (lo := lo) hlo opsA.toList 0 ⟨st, []⟩ hok1
  refine ⟨h.1, h.2.1, fun t ht => ?_, by omega, trivial, goOps_ok _ _ _ hok1⟩
  have hk : ∀ (l : List Nat) (tm : Nat → PVal), undefAll l tm t = (match memN t l with | true => .undef | false => tm t) := by
    intro l tm; unfold undefAll; cases l <;> rfl
  rw [hk]
  cases hm : memN t _ with
  | false => exact h.2.2.1 t ht
  | true =>
    rw [memN_iff] at hm
    have := gFind_of_mem hm
    obtain ⟨gs, hgs⟩ := this
    exact absurd (h.2.2.2 t gs rfl hgs) ht

end Go.Im

/-
  Code that only goes on (regions and ifs): sound.
-/
namespace Go.Im
variable {C : Cfg} {g : Gh} {w : World}

theorem mergeOk_true {b x y : Bool} (h : mergeOk b x y = true) : (b = true → x = true) ∧ (b = false → y = true) := by
  cases b <;> cases x <;> cases y <;> simp_all [mergeOk]

theorem execS_turn {lo : Nat} : ∀ (c : Code) (st : St), simple c = true → lo ≤ st.nb → (execS C c st).ok = true →
    Turn lo (execS C c st).dirty st.bx (execS C c st).bx ∧ (∀ x ∈ st.dirty, x ∈ (execS C c st).dirty) ∧ (∀ t, t ∉ writes c → (execS C c st).tm t = st.tm t) ∧ st.nb ≤ (execS C c st).nb ∧ (execS C c st).n = st.n ∧ st.ok = true := by
  intro c
  induction c with
  | skip => intro st _ _ hok; exact ⟨.refl _ _ _, fun _ h => h, fun _ _ => rfl, Nat.le_refl _, rfl, hok⟩
  | region id ops draw => intro st _ hlo hok; exact evRegion_turn hlo hok
  | seq a b iha ihb =>
    intro st hs hlo hok
    simp only [simple, Bool.and_eq_true] at hs
    simp only [execS] at hok ⊢
    obtain ⟨okb⟩ : ∃ x : Unit, True := ⟨(), trivial⟩
    have hnb : ∀ (hA : (execS C a st).ok = true), lo ≤ (execS C a st).nb := fun hA => by have := (iha st hs.1 hlo hA).2.2.2.1; omega
    -- the first part's own verdict
    have okA : (execS C a st).ok = true := by
      by_cases h : (execS C a st).ok = true
      · exact h
      · have : ∀ (c : Code) (s : St), simple c = true → (execS C c s).ok = true → s.ok = true := by
          intro c
          induction c with
          | skip => intro s _ h; exact h
          | region id ops draw => intro s _ h; exact (evRegion_turn (lo := 0) (Nat.zero_le _) h).2.2.2.2.2
          | seq a b iha ihb => intro s hs h; simp only [simple, Bool.and_eq_true] at hs; exact iha s hs.1 (ihb _ hs.2 h)
          | cond x a b iha ihb =>
            intro s hs h
            simp only [execS] at h
            split at h
            · simp only [mergeSt] at h; exact (andB_true h).1
            · cases h
          | _ => intro s hs; cases hs
        exact this b _ hs.2 hok
    have h1 := iha st hs.1 hlo okA
    have h2 := ihb (execS C a st) hs.2 (hnb okA) hok
    refine ⟨h1.1.trans h2.1 h2.2.1, fun x hx => h2.2.1 x (h1.2.1 x hx), fun t ht => ?_, Nat.le_trans h1.2.2.2.1 h2.2.2.2.1, h2.2.2.2.2.1.trans h1.2.2.2.2.1, h1.2.2.2.2.2⟩
    simp only [writes, List.mem_append, not_or] at ht
    rw [h2.2.2.1 t ht.2, h1.2.2.1 t ht.1]
  | cond x a b iha ihb =>
    intro st hs hlo hok
    simp only [simple, Bool.and_eq_true] at hs
    simp only [execS] at hok ⊢
    cases hx : argOf st.tm x <;> (rw [hx] at hok) <;> (try (cases hok; done))
    rename_i v
    simp only at hok ⊢
    simp only [mergeSt] at hok ⊢
    obtain ⟨hok0, hok1⟩ := andB_true hok
    obtain ⟨ht, hf⟩ := mergeOk_true hok1
    refine ⟨⟨fun b' _ h => by simp only [h, mergeBox], fun b' c0 c1 _ h h' => ?_⟩, fun y hy => List.mem_append.2 (.inr hy), fun t ht' => ?_, ?_, trivial, hok0⟩
    · -- a merged box is as it was where nothing is marked
      simp only [h, mergeBox] at h'
      split at h' <;> (try (cases h'; done))
      rename_i q0 q1 q2 e0 e1 e2
      cases e0
      split at h' <;> (try (cases h'; done))
      rename_i e3 e4
      simp only [Option.some.injEq] at h'
      subst h'
      have e3 := Nat.eq_of_beq_eq_true e3
      have e4 := Nat.eq_of_beq_eq_true e4
      have key : ∀ (D : List (Nat × Nat)) (k : Nat) (x0 x1 x2 : List PVal), x0.length = x1.length → x0.length = x2.length → x0.length = (mergeCells v D b' k x0 x1 x2).length ∧ ∀ j : Nat, memP b' (k + j) D = false → (mergeCells v D b' k x0 x1 x2)[j]? = x0[j]? := by
        intro D k x0
        induction x0 generalizing k with
        | nil => intro x1 x2 _ _; simp [mergeCells]
        | cons y0 x0 ih =>
          intro x1 x2 h1 h2
          cases x1 with
          | nil => simp at h1
          | cons y1 x1 =>
            cases x2 with
            | nil => simp at h2
            | cons y2 x2 =>
              simp only [mergeCells]
              have := ih (k + 1) x1 x2 (by simpa using h1) (by simpa using h2)
              refine ⟨by simpa using this.1, fun j hj => ?_⟩
              cases j with
              | zero =>
                have : memP b' k D = false := by simpa using hj
                simp [this]
              | succ j => simpa using this.2 j (by rw [show k + 1 + j = k + (j + 1) from by omega]; exact hj)
      have := key ((execS C a { st with ok := true, dirty := [] }).dirty ++ (execS C b { st with ok := true, dirty := [] }).dirty) 0 c0 q1 q2 e3 e4
      refine .inr ⟨this.1, fun k hk => this.2 k ?_⟩
      rw [memP_append] at hk
      simpa using (Bool.or_eq_false_iff.1 hk).1
    · simp only [writes] at ht'
      have : memN t (writes a ++ writes b) = false := by
        cases hm : memN t (writes a ++ writes b) with
        | false => rfl
        | true => exact absurd ((memN_iff _ _).1 hm) ht'
      rw [this]
    · cases v with
      | true => have := (iha { st with ok := true, dirty := [] } hs.1 hlo (ht rfl)).2.2.2.1; simp only at this; omega
      | false => have := (ihb { st with ok := true, dirty := [] } hs.2 hlo (hf rfl)).2.2.2.1; simp only at this; omega
  | _ => intro st hs; cases hs

theorem execS_ok {c : Code} {st : St} (hs : simple c = true) (h : (execS C c st).ok = true) : st.ok = true := (execS_turn (lo := 0) c st hs (Nat.zero_le _) h).2.2.2.2.2

theorem RelSt.flags {st : St} {a : Act} {b : Bool} {d : List (Nat × Nat)} (R : RelSt g w st a) : RelSt g w { st with ok := b, dirty := d } a := ⟨R.inv, R.bx, R.tm, R.size, R.defers, R.free⟩

/-- boxes behind two ways -/
theorem relB_merge {lo : Nat} {v : Bool} {d d' : List (Nat × Nat)} {b0 b1 b2 : Boxes} (hv : Turn lo d b0 (bif v then b1 else b2)) (hd : ∀ x ∈ d, x ∈ d') (h0 : ∀ b, lo ≤ b → b0 b = none) (r : RelB g w (bif v then b1 else b2)) :
    RelB g w (fun x => mergeBox v d' x (b0 x) (b1 x) (b2 x)) where
  at_ := fun b cs hb => by
    simp only [mergeBox] at hb
    split at hb <;> (try (cases hb; done))
    rename_i c0 c1 c2 h0' h1 h2
    split at hb <;> (try (cases hb; done))
    rename_i e1 e2
    simp only [Option.some.injEq] at hb
    subst hb
    have e1 := Nat.eq_of_beq_eq_true e1
    have e2 := Nat.eq_of_beq_eq_true e2
    have hlt : b < lo := Nat.lt_of_not_le fun hn => by rw [h0 b hn] at h0'; cases h0'
    have hcv : (bif v then b1 else b2) b = some (bif v then c1 else c2) := by cases v <;> assumption
    obtain ⟨blk, cells, T, q1, q2, q3⟩ := r.at_ b _ hcv
    refine ⟨blk, cells, T, q1, q2, ?_⟩
    have hnd : ∀ k, k < c0.length → memP b k d' = false → memP b k d = false := fun k _ h => by
      cases hq : memP b k d with
      | false => rfl
      | true => rw [(memP_iff b k d').2 (hd _ ((memP_iff b k d).1 hq))] at h; cases h
    have hlen : (bif v then c1 else c2).length = c0.length := by cases v; exact e2.symm; exact e1.symm
    have hkk : ∀ k : Nat, k < c0.length → memP b k d' = false → (bif v then c1 else c2)[k]? = c0[k]? := fun k hk hm => by
      rcases hv.some b c0 _ hlt h0' hcv with h | ⟨_, h⟩
      · have := h k (by omega); rw [hnd k hk hm] at this; cases this
      · exact h k (hnd k hk hm)
    have key : ∀ (k : Nat) (x0 x1 x2 : List PVal) (vs : List Value), x0.length = x1.length → x0.length = x2.length → RelL g w (bif v then x1 else x2) vs → (∀ j : Nat, j < x0.length → memP b (k + j) d' = false → (bif v then x1 else x2)[j]? = x0[j]?) → RelL g w (mergeCells v d' b k x0 x1 x2) vs := by
      intro k x0
      induction x0 generalizing k with
      | nil =>
        intro x1 x2 vs h1 h2 rl _
        have a1 : x1 = [] := List.eq_nil_of_length_eq_zero h1.symm
        have a2 : x2 = [] := List.eq_nil_of_length_eq_zero h2.symm
        subst a1 a2; cases v <;> simpa [mergeCells] using rl
      | cons y0 x0 ih =>
        intro x1 x2 vs h1 h2 rl hj
        cases x1 with
        | nil => simp at h1
        | cons y1 x1 =>
          cases x2 with
          | nil => simp at h2
          | cons y2 x2 =>
            have hc : (bif v then y1 :: x1 else y2 :: x2) = sel v y1 y2 :: (bif v then x1 else x2) := by cases v <;> rfl
            rw [hc] at rl
            obtain ⟨u, vs', rfl, rv, rs⟩ := relL_of_cons rl
            simp only [mergeCells]
            refine relL_cons ?_ (ih (k + 1) x1 x2 vs' (by simpa using h1) (by simpa using h2) rs fun j hjl hm => ?_)
            · cases hm : memP b k d' with
              | true => exact rv.le (mergeLeaf_le v y1 y2)
              | false =>
                have := hj 0 (by simp) (by simpa using hm)
                rw [hc] at this
                simp at this; subst this; exact rv
            · have := hj (j + 1) (by simp; omega) (by rw [show k + (j + 1) = k + 1 + j from by omega]; exact hm)
              rw [hc] at this
              simpa using this
    exact key 0 c0 c1 c2 cells.toList e1 e2 q3 fun j hjl hm => hkk j hjl (by simpa using hm)

theorem relSt_merge {g' : Gh} {w' : World} {st s1 s2 : St} {v : Bool} {ws : List Nat} {a' : Act}
    (hE : ∀ b, st.nb ≤ b → st.bx b = none) (S : RelSt g' w' (bif v then s1 else s2) a') (hn : (bif v then s1 else s2).n = st.n)
    (htm : ∀ t, t ∉ ws → (bif v then s1 else s2).tm t = st.tm t) (hT : Turn st.nb (bif v then s1 else s2).dirty st.bx (bif v then s1 else s2).bx) : RelSt g' w' (mergeSt v ws st s1 s2) a' where
  inv := S.inv
  bx := by
    have := relB_merge (g := g') (w := w') (lo := st.nb) (v := v) (d := (bif v then s1 else s2).dirty) (d' := s1.dirty ++ s2.dirty) (b0 := st.bx) (b1 := s1.bx) (b2 := s2.bx) (by cases v <;> exact hT) (fun x hx => by cases v <;> simp_all) hE (by cases v <;> exact S.bx)
    exact this
  tm := fun t => by
    simp only [mergeSt]
    cases hm : memN t ws with
    | true =>
      simp only
      have := S.tm t
      refine RelV.le (mergeV_le v (s1.tm t) (s2.tm t)) ?_
      cases v <;> exact this
    | false =>
      simp only
      rw [← htm t fun h => by rw [(memN_iff t ws).2 h] at hm; cases hm]
      exact S.tm t
  size := by simp only [mergeSt]; rw [← hn]; exact S.size
  defers := S.defers
  free := fun b hb => S.free b (by simp only [mergeSt] at hb; cases v <;> simp <;> omega)

theorem RelSt.noBox {st : St} {a : Act} (R : RelSt g w st a) : ∀ b, st.nb ≤ b → st.bx b = none := fun b hb => by
  cases hq : st.bx b with
  | none => rfl
  | some cs =>
    obtain ⟨blk, _, _, h, _⟩ := R.bx.at_ b cs hq
    rw [R.free b hb] at h; cases h

theorem argOf_cond {st : St} {a : Act} (R : RelSt g w st a) {x : Operand} {v : Bool} (h : argOf st.tm x = .bool v) : a.eval x = .bool v := by
  have := relArg (g := g) (w := w) (tm := st.tm) (a := a) x fun t _ => R.tm t
  rw [h] at this
  cases hq : a.eval x <;> rw [hq] at this <;> cases this
  rfl

theorem sound_execS (hm : C.P.follows .mixedOrders = true) (hE : EOk C) (hG : GOk C) : ∀ (c : Code) (g : Gh) (w : World) (st : St) (a : Act) (Q : Exit → Act → World → Prop), simple c = true → RelSt g w st a → (execS C c st).ok = true →
    (∀ a' g' w', Ext g w g' w' → RelSt g' w' (execS C c st) a' → Q .normal a' w') → c.wp C.P Q a w := by
  intro c
  induction c with
  | skip => intro g w st a Q _ R _ hQ; exact wp_skip (hQ a g w (Ext.refl g w) R)
  | region id ops draw => intro g w st a Q _ R hok hQ; exact sound_region hm hE hG R hok hQ
  | seq x y ihx ihy =>
    intro g w st a Q hs R hok hQ
    simp only [simple, Bool.and_eq_true] at hs
    simp only [execS] at hok hQ
    refine wp_seq (ihx g w st a _ hs.1 R (execS_ok hs.2 hok) fun a1 g1 w1 hx1 R1 => ?_)
    exact ihy g1 w1 _ a1 Q hs.2 R1 hok fun a2 g2 w2 hx2 R2 => hQ a2 g2 w2 (hx1.trans hx2) R2
  | cond x p q ihp ihq =>
    intro g w st a Q hs R hok hQ
    simp only [simple, Bool.and_eq_true] at hs
    simp only [execS] at hok hQ
    cases hx : argOf st.tm x <;> (rw [hx] at hok hQ) <;> (try (cases hok; done))
    rename_i v
    simp only at hok hQ
    have hok' := hok
    simp only [mergeSt] at hok'
    obtain ⟨ht, hf⟩ := mergeOk_true (andB_true hok').2
    refine wp_cond (argOf_cond R hx) ?_
    have R' : RelSt g w { st with ok := true, dirty := [] } a := R.flags
    cases v with
    | true =>
      have hT := execS_turn (C := C) (lo := st.nb) p { st with ok := true, dirty := [] } hs.1 (Nat.le_refl _) (ht rfl)
      exact ihp g w _ a Q hs.1 R' (ht rfl) fun a' g' w' hx' S => hQ a' g' w' hx' (relSt_merge (v := true) R.noBox S hT.2.2.2.2.1 (fun t ht => hT.2.2.1 t fun h => ht (List.mem_append_left _ h)) hT.1)
    | false =>
      have hT := execS_turn (C := C) (lo := st.nb) q { st with ok := true, dirty := [] } hs.2 (Nat.le_refl _) (hf rfl)
      exact ihq g w _ a Q hs.2 R' (hf rfl) fun a' g' w' hx' S => hQ a' g' w' hx' (relSt_merge (v := false) R.noBox S hT.2.2.2.2.1 (fun t ht => hT.2.2.1 t fun h => ht (List.mem_append_right _ h)) hT.1)
  | _ => intro g w st a Q hs; cases hs

end Go.Im

/-
  Code with its ways out: sound; loops by their own laws.
-/
namespace Go.Im
variable {C : Cfg} {g : Gh} {w : World}

/-- a way on that is all right only where it came from what is all right -/
def Resp (k : St → Res) : Prop := ∀ s, (k s).ok = true → s.ok = true

/-- each way on, with the answer 'r' -/
structure KOk (r : Res) (Q : Exit → Act → World → Prop) (g0 : Gh) (w0 : World) (kn : St → Res) (kx : Nat → St → Res) (kr : St → Res) : Prop where
  n : ∀ st a g w, Ext g0 w0 g w → RelSt g w st a → kn st = r → Q .normal a w
  x : ∀ i st a g w, Ext g0 w0 g w → RelSt g w st a → kx i st = r → Q (.exit i) a w
  r : ∀ st a g w, Ext g0 w0 g w → RelSt g w st a → kr st = r → Q .ret a w

structure SoundL (C : Cfg) (c : Code) (f : LSpec) : Prop where
  resp : ∀ kx kr, (∀ i, Resp (kx i)) → Resp kr → Resp fun st => f st kx kr
  run : ∀ (kx : Nat → St → Res) (kr : St → Res) (r : Res) (Q : Exit → Act → World → Prop) (g0 : Gh) (w0 : World) (g : Gh) (w : World) (st : St) (a : Act), r.ok = true → (∀ i, Resp (kx i)) → Resp kr →
    KOk r Q g0 w0 (fun _ => Res.bad) kx kr → Ext g0 w0 g w → RelSt g w st a → f st kx kr = r → (Code.loop c).wp C.P Q a w

def LOk (C : Cfg) : Code → Prop
  | .seq a b => LOk C a ∧ LOk C b
  | .cond _ a b => LOk C a ∧ LOk C b
  | .block _ c => LOk C c
  | .loop c => ∀ f, C.L (firstReg c) = some f → SoundL C c f
  | _ => True

theorem exec_resp : ∀ (c : Code) (kn : St → Res) (kx : Nat → St → Res) (kr : St → Res), LOk C c → Resp kn → (∀ i, Resp (kx i)) → Resp kr → Resp (exec C c kn kx kr) := by
  intro c
  induction c with
  | skip => intro kn kx kr _ hn _ _; exact hn
  | region id ops draw => intro kn kx kr _ hn _ _ st h; exact (evRegion_turn (lo := 0) (Nat.zero_le _) (hn _ h)).2.2.2.2.2
  | seq a b iha ihb => intro kn kx kr hL hn hx hr; exact iha _ kx kr hL.1 (ihb kn kx kr hL.2 hn hx hr) hx hr
  | cond x a b iha ihb =>
    intro kn kx kr hL hn hx hr st h
    simp only [exec] at h
    split at h
    · rename_i v hv
      split at h
      · rename_i hs
        exact execS_ok (c := .cond x a b) (by simpa [simple] using hs) (hn _ h)
      · cases v
        · exact ihb kn kx kr hL.2 hn hx hr st h
        · exact iha kn kx kr hL.1 hn hx hr st h
    · cases h
  | block i c ih =>
    intro kn kx kr hL hn hx hr
    refine ih kn _ kr hL hn (fun j s h => ?_) hr
    split at h
    · exact hn s h
    · exact hx j s h
  | exit i => intro kn kx kr _ _ hx _; exact hx i
  | ret => intro kn kx kr _ _ _ hr; exact hr
  | loop c ih =>
    intro kn kx kr hL hn hx hr st h
    simp only [exec] at h
    split at h
    · rename_i f hf; exact (hL f hf).resp kx kr hx hr st h
    · cases h
  | _ => intro kn kx kr _ _ _ _ st h; cases h

theorem exec_sound (hm : C.P.follows .mixedOrders = true) (hE : EOk C) (hG : GOk C) {r : Res} (hr : r.ok = true) {g0 : Gh} {w0 : World} : ∀ (c : Code) (kn : St → Res) (kx : Nat → St → Res) (kr : St → Res) (Q : Exit → Act → World → Prop) (g : Gh) (w : World) (st : St) (a : Act),
    LOk C c → Resp kn → (∀ i, Resp (kx i)) → Resp kr → KOk r Q g0 w0 kn kx kr → Ext g0 w0 g w → RelSt g w st a → exec C c kn kx kr st = r → c.wp C.P Q a w := by
  intro c
  induction c with
  | skip => intro kn kx kr Q g w st a _ _ _ _ K hx R h; exact wp_skip (K.n st a g w hx R h)
  | region id ops draw =>
    intro kn kx kr Q g w st a _ hn _ _ K hx R h
    simp only [exec] at h
    exact sound_region hm hE hG R (hn _ (by rw [h]; exact hr)) fun a' g' w' hx' R' => K.n _ a' g' w' (hx.trans hx') R' h
  | seq x y ihx ihy =>
    intro kn kx kr Q g w st a hL hn hx hrr K hE0 R h
    simp only [exec] at h
    refine wp_seq (ihx (exec C y kn kx kr) kx kr _ g w st a hL.1 (exec_resp y kn kx kr hL.2 hn hx hrr) hx hrr ⟨?_, ?_, ?_⟩ hE0 R h)
    · intro st' a' g' w' hx' R' h'; exact ihy kn kx kr Q g' w' st' a' hL.2 hn hx hrr K hx' R' h'
    · exact K.x
    · exact K.r
  | cond x p q ihp ihq =>
    intro kn kx kr Q g w st a hL hn hx hrr K hE0 R h
    simp only [exec] at h
    split at h
    · rename_i v hv
      split at h
      · rename_i hs
        exact sound_execS hm hE hG (.cond x p q) g w st a Q (by simpa [simple] using hs) R (hn _ (by rw [h]; exact hr)) fun a' g' w' hx' R' => K.n _ a' g' w' (hE0.trans hx') R' h
      · refine wp_cond (argOf_cond R hv) ?_
        cases v
        · exact ihq kn kx kr Q g w st a hL.2 hn hx hrr K hE0 R h
        · exact ihp kn kx kr Q g w st a hL.1 hn hx hrr K hE0 R h
    · rw [← h] at hr; cases hr
  | block i c ih =>
    intro kn kx kr Q g w st a hL hn hx hrr K hE0 R h
    simp only [exec] at h
    refine wp_block (ih kn _ kr _ g w st a hL hn (fun j s h => ?_) hrr ⟨?_, ?_, ?_⟩ hE0 R h)
    · split at h
      · exact hn s h
      · exact hx j s h
    · exact K.n
    · intro j st' a' g' w' hx' R' h'
      simp only [Exit.inBlock]
      split at h'
      · rename_i hb
        rw [if_pos (Nat.eq_of_beq_eq_true hb)]
        exact K.n st' a' g' w' hx' R' h'
      · rename_i hb
        rw [if_neg (fun e => by subst e; simp at hb)]
        exact K.x j st' a' g' w' hx' R' h'
    · exact K.r
  | exit i => intro kn kx kr Q g w st a _ _ _ _ K hE0 R h; exact wp_exit (K.x i st a g w hE0 R h)
  | ret => intro kn kx kr Q g w st a _ _ _ _ K hE0 R h; exact wp_ret (K.r st a g w hE0 R h)
  | loop c ih =>
    intro kn kx kr Q g w st a hL hn hx hrr K hE0 R h
    simp only [exec] at h
    split at h
    · rename_i f hf
      refine (hL f hf).run kx kr r Q g0 w0 g w st a hr hx hrr ⟨fun _ _ _ _ _ _ h' => ?_, K.x, K.r⟩ hE0 R h
      rw [← h'] at hr; cases hr
    · rw [← h] at hr; cases hr
  | _ => intro kn kx kr Q g w st a _ _ _ _ K hE0 R h; simp only [exec] at h; rw [← h] at hr; cases hr

/-! ### the end of a call -/
theorem dedup_prefix : ∀ (l acc : List Nat), ∃ r, dedup l acc = acc ++ r
  | [], acc => ⟨[], by simp [dedup]⟩
  | x :: l, acc => by
    unfold dedup
    cases memN x acc with
    | true => exact dedup_prefix l acc
    | false =>
      obtain ⟨r, hr⟩ := dedup_prefix l (acc ++ [x])
      exact ⟨x :: r, by simp [hr]⟩

theorem passedAt_get (bx : Boxes) : ∀ (n k : Nat) (l : List (List PVal)), passedAt bx n k = some l → l.length = n ∧ ∀ (j : Nat) (c : List PVal), l[j]? = some c → bx (k + j) = some c
  | 0, k, l, h => by simp [passedAt] at h; subst h; simp
  | n + 1, k, l, h => by
    unfold passedAt at h
    split at h <;> (try (cases h; done))
    rename_i c l' hc hl
    simp at h; subst h
    obtain ⟨h1, h2⟩ := passedAt_get bx n (k + 1) l' hl
    refine ⟨by simp [h1], fun j d hj => ?_⟩
    cases j with
    | zero => simp at hj; subst hj; simpa using hc
    | succ j => rw [show k + (j + 1) = k + 1 + j from by omega]; exact h2 j d (by simpa using hj)

def resF (tm : Array Value) : ResultVar → Sem Value
  | .tmp t => pure (tm.getD t Go.undef)
  | .cell x t => do loadVar t (← asAddr (tm.getD x Go.undef))

theorem resVals_run {st : St} {a : Act} (R : RelSt g w st a) : ∀ (l : List ResultVar), (resVals C st l).2 = true →
    ∃ vs : List Value, (l.mapM (resF a.tmps)).run C.P w = .ok vs w ∧ RelL g w (resVals C st l).1 vs
  | [], _ => ⟨[], by simp, relL_nil⟩
  | .tmp t :: r, h => by
    simp only [resVals] at h
    obtain ⟨vs, h1, h2⟩ := resVals_run R r h
    refine ⟨a.tmps.getD t Go.undef :: vs, ?_, ?_⟩
    · have e : (resF a.tmps (.tmp t)).run C.P w = .ok (a.tmps.getD t Go.undef) w := by simp [resF]
      simp [List.mapM_cons, h1, e]
    · simp only [resVals]; exact relL_cons (R.tm t) h2
  | .cell x t :: r, h => by
    simp only [resVals] at h
    have rx := R.tm x
    cases hp : st.tm x <;> (rw [hp] at h rx) <;> (try (cases h; done))
    rename_i b off
    simp only at h
    cases hb : st.bx b with
    | none => rw [hb] at h; cases h
    | some cs =>
      rw [hb] at h
      simp only at h
      cases hpv : (partV C t cs off).2 with
      | false => rw [hpv] at h; cases h
      | true =>
        rw [hpv] at h
        obtain ⟨vs, h1, h2⟩ := resVals_run R r h
        obtain ⟨blk, cells, T, q1, q2, q3⟩ := R.bx.at_ b cs hb
        cases hv : a.tmps.getD x Go.undef <;> rw [hv] at rx <;> cases rx
        rename_i blk' hb'
        rw [q1] at hb'; cases hb'
        obtain ⟨v, hl, rv⟩ := run_loadVar_at (C := C) (g := g) (w := w) (t := t) (off := off) blk 0 cells.toList (fun j v hj => by
          simp only [World.cell?, q2]
          simpa [Nat.zero_add] using hj) q3 hpv
        refine ⟨v :: vs, ?_, ?_⟩
        · simp only [Nat.zero_add] at hl
          have e : (resF a.tmps (.cell x t)).run C.P w = .ok v w := by simp only [resF, hv]; simp [asAddr, hl]
          simp [List.mapM_cons, h1, e]
        · simp only [resVals, hp, hb]; exact relL_cons rv h2

theorem results_run {fn : Func} {st : St} {a : Act} (R : RelSt g w st a) (h : (resVals C st fn.results.toList).2 = true) :
    ∃ v, (results fn a.tmps).run C.P w = .ok v w ∧ RelV g w (oneOrTup (resVals C st fn.results.toList).1) v := by
  obtain ⟨vs, h1, h2⟩ := resVals_run R fn.results.toList h
  have e : results fn a.tmps = (fn.results.mapM (resF a.tmps) >>= fun vs => pure (if h : vs.size = 1 then vs[0] else .tuple vs)) := by
    unfold results
    refine congrArg (fun f : ResultVar → Sem Value => fn.results.mapM f >>= fun vs => pure (if h : vs.size = 1 then vs[0] else .tuple vs)) ?_
    funext x; cases x <;> rfl
  have hr : (results fn a.tmps).run C.P w = .ok (if h : vs.toArray.size = 1 then vs.toArray[0] else .tuple vs.toArray) w := by
    rw [e, Array.mapM_eq_mapM_toList]
    simp [h1]
  refine ⟨_, hr, ?_⟩
  cases hq : (resVals C st fn.results.toList).1 with
  | nil =>
    rw [hq] at h2
    have : vs = [] := List.eq_nil_of_length_eq_zero h2.1.symm
    subst this
    exact relV_tup_of h2
  | cons x r =>
    rw [hq] at h2
    cases r with
    | nil =>
      obtain ⟨u, vs', rfl, rv, rs⟩ := relL_of_cons h2
      have : vs' = [] := List.eq_nil_of_length_eq_zero rs.1.symm
      subst this
      simpa [oneOrTup] using rv
    | cons y r =>
      have hl : vs.length = r.length + 2 := by have := h2.1; simp at this; omega
      rw [dif_neg (by simp [hl])]
      exact relV_tup_of h2

end Go.Im

/-
  A function's whole run: sound.
-/
namespace Go.Im
variable {C : Cfg} {g : Gh} {w : World}

theorem finish_sound {fn : Func} {m : Nat} {st : St} {a : Act} {g0 : Gh} {w0 : World} {r : Res} (h0 : ∀ b, m ≤ b → g0.β b = none) (hE : Ext g0 w0 g w) (R : RelSt g w st a) (hr : r.ok = true) (h : finish C fn m st = r) :
    ∃ v, (results fn a.tmps).run C.P w = .ok v w ∧ CallPost g0 w0 m r.val r.bxs (.returned v) w := by
  unfold finish at h
  simp only at h
  cases hbs : passedAt st.bx m 0 with
  | none => rw [hbs] at h; subst h; cases hr
  | some bs =>
    rw [hbs] at h
    simp only at h
    generalize hv : oneOrTup (resVals C st fn.results.toList).1 = v at h
    generalize hesc : dedup (ptrs v) (List.range m) = esc at h
    cases hes : boxesAt st.bx (esc.drop m) with
    | none => rw [hes] at h; subst h; cases hr
    | some es =>
      rw [hes] at h
      simp only at h
      subst h
      simp only at hr ⊢
      obtain ⟨u, hu, ru⟩ := results_run (fn := fn) R (andB_true hr).2
      rw [hv] at ru
      refine ⟨u, hu, u, g.pass esc, rfl, ?_⟩
      have hnd : esc.Nodup := by rw [← hesc]; exact dedup_nodup _ _ List.nodup_range
      obtain ⟨rest, hrest⟩ := dedup_prefix (ptrs v) (List.range m)
      rw [hesc] at hrest
      have hlow : ∀ k, k < m → esc[k]? = some k := fun k hk => by rw [hrest, List.getElem?_append_left (by simpa using hk)]; simp [hk]
      have hdrop : esc.drop m = rest := by rw [hrest]; simp
      rw [hdrop] at hes
      obtain ⟨hesl, hesg⟩ := boxesAt_get st.bx rest es hes
      obtain ⟨hbsl, hbsg⟩ := passedAt_get st.bx m 0 bs hbs
      have hlen : esc.length = m + es.length := by rw [hrest]; simp [hesl]
      have hall : ∀ (k : Nat) (c : List PVal), (bs ++ es)[k]? = some c → ∃ b, esc[k]? = some b ∧ st.bx b = some c := by
        intro k c hk
        by_cases hlt : k < m
        · rw [List.getElem?_append_left (by omega)] at hk
          exact ⟨k, hlow k hlt, by simpa using hbsg k c hk⟩
        · rw [List.getElem?_append_right (by omega), hbsl] at hk
          obtain ⟨b, h1, h2⟩ := hesg _ c hk
          refine ⟨b, ?_, h2⟩
          rw [hrest, List.getElem?_append_right (by simp; omega)]
          simpa using h1
      have hRen : Ren g (g.pass esc) (fun b => idx b esc 0) := by
        refine ⟨fun _ => rfl, fun b blk k hb hk => ?_⟩
        have := (idx_spec b esc 0 k hk).2
        simp only [Nat.sub_zero] at this
        simp [Gh.pass, this, hb]
      refine ⟨⟨hE.size, hE.os, hE.tape, hE.output, hE.keep, hE.role, fun b x hx => ?_, fun b x hx => ?_⟩, ⟨R.inv.dflt, fun k blk hk => ?_, fun k k' blk hk hk' => ?_⟩, ⟨fun k cs hk => ?_⟩, ru.mapV hRen, ?_, fun b hb => ?_⟩
      · have hlt : b < m := Nat.lt_of_not_le fun hn => by rw [h0 b hn] at hx; cases hx
        simp [Gh.pass, hlow b hlt, hE.beta b x hx]
      · simp only [Gh.pass] at hx
        cases hi : esc[b]? with
        | none => rw [hi] at hx; cases hx
        | some b' =>
          rw [hi] at hx
          rcases hE.fresh b' x hx with h1 | h1
          · have hlt : b' < m := Nat.lt_of_not_le fun hn => by rw [h0 b' hn] at h1; cases h1
            have : b = b' := nodup_get _ _ _ _ hnd hi (hlow b' hlt)
            subst this; exact .inl h1
          · exact .inr h1
      · simp only [Gh.pass] at hk
        cases hi : esc[k]? with
        | none => rw [hi] at hk; cases hk
        | some b => rw [hi] at hk; exact R.inv.ex b blk hk
      · simp only [Gh.pass] at hk hk'
        cases hi : esc[k]? with
        | none => rw [hi] at hk; cases hk
        | some b =>
          cases hi' : esc[k']? with
          | none => rw [hi'] at hk'; cases hk'
          | some b' =>
            rw [hi] at hk; rw [hi'] at hk'
            have := R.inv.inj _ _ _ hk hk'
            subst this
            exact nodup_get _ _ _ _ hnd hi hi'
      · rw [List.getElem?_map] at hk
        cases hc : (bs ++ es)[k]? with
        | none => rw [hc] at hk; cases hk
        | some c =>
          rw [hc] at hk
          simp at hk; subst hk
          obtain ⟨b, h1, h2⟩ := hall k c hc
          obtain ⟨blk, cells, T, h3, h4, h5⟩ := R.bx.at_ b c h2
          exact ⟨blk, cells, T, by simp [Gh.pass, h1, h3], h4, h5.mapLeaf hRen⟩
      · simp; omega
      · simp only [List.length_map, List.length_append] at hb
        simp [Gh.pass, List.getElem?_eq_none (show esc.length ≤ b by omega)]

theorem finish_resp {fn : Func} {m : Nat} : Resp (finish C fn m) := by
  intro s h
  unfold finish at h
  simp only at h
  split at h
  · cases h
  · split at h
    · cases h
    · exact (andB_true h).1

theorem runF_sound (hm : C.P.follows .mixedOrders = true) (hE : EOk C) (hG : GOk C) {f : Nat} {fn : Func} {c : Code} (hf : C.P.funcs[f]? = some fn) (hb : fn.body = some c) (hL : LOk C c) {args : List PVal} {bxs : List (List PVal)} {v : PVal} {bxs' : List (List PVal)}
    (hn : args.length ≤ fn.ntmps) (h : runF C fn args bxs = ⟨true, v, bxs'⟩) {rargs : Array Value} (inv : Inv g w) (hfree : ∀ b, bxs.length ≤ b → g.β b = none) (rb : RelB g w (fun b => bxs[b]?)) (ra : RelL g w args rargs.toList) :
    Calls C.P f rargs w (CallPost g w bxs.length v bxs') := by
  unfold runF at h
  rw [hb] at h
  simp only at h
  have hsz : rargs.size = args.length := by have := ra.1; simpa using this.symm
  have R : RelSt g w (startSt fn.ntmps args bxs) { tmps := rargs ++ Array.replicate (fn.ntmps - rargs.size) Go.undef, defers := [] } := by
    refine ⟨inv, rb, fun t => ?_, ?_, rfl, hfree⟩
    · simp only [startSt, nthV_eq]
      by_cases hlt : t < args.length
      · obtain ⟨x, hx, rx⟩ := ra.2 t args[t] (List.getElem?_eq_getElem hlt)
        rw [List.getD_eq_getElem?_getD, List.getElem?_eq_getElem hlt]
        simp only [Option.getD_some]
        have : (rargs ++ Array.replicate (fn.ntmps - rargs.size) Go.undef).getD t Go.undef = x := by
          rw [Array.getD_eq_getD_getElem?, Array.getElem?_append_left (by omega)]
          rw [Array.getElem?_toList] at hx
          rw [hx]; rfl
        rw [this]; exact rx
      · rw [List.getD_eq_getElem?_getD, List.getElem?_eq_none (by omega)]
        exact .undef _
    · simp [startSt]; omega
  have fin : ∀ (st : St) (a : Act) (g' : Gh) (w' : World), Ext g w g' w' → RelSt g' w' st a → finish C fn bxs.length st = ⟨true, v, bxs'⟩ → a.defers = [] ∧ ∃ u, (results fn a.tmps).run C.P w' = .ok u w' ∧ CallPost g w bxs.length v bxs' (.returned u) w' := by
    intro st a g' w' hx R' hfin
    obtain ⟨u, h1, h2⟩ := finish_sound hfree hx R' (r := ⟨true, v, bxs'⟩) rfl hfin
    exact ⟨R'.defers, u, h1, h2⟩
  refine calls_of_wp hf hb (exec_sound hm hE hG (r := ⟨true, v, bxs'⟩) rfl c (finish C fn bxs.length) (fun _ _ => Res.bad) (finish C fn bxs.length) _ g w _ _ hL finish_resp (fun i s h => by cases h) finish_resp ⟨?_, ?_, ?_⟩ (Ext.refl g w) R h)
  · intro st a g' w' hx R' hfin; exact fin st a g' w' hx R' hfin
  · intro i st a g' w' hx R' hfin; cases hfin
  · intro st a g' w' hx R' hfin; exact fin st a g' w' hx R' hfin

/-- a spec that says what the run says -/
theorem soundF_of (hm : C.P.follows .mixedOrders = true) (hE : EOk C) (hG : GOk C) {f : Nat} {fn : Func} {c : Code} (hf : C.P.funcs[f]? = some fn) (hb : fn.body = some c) (hL : LOk C c) {S : FSpec}
    (h : ∀ args bxs v bxs', S args bxs = some (true, v, bxs') → args.length ≤ fn.ntmps ∧ runF C fn args bxs = ⟨true, v, bxs'⟩) : SoundF C.P f S :=
  fun args bxs v bxs' hS g w rargs inv hfree rb ra => runF_sound hm hE hG hf hb hL (h args bxs v bxs' hS).1 (h args bxs v bxs' hS).2 inv hfree rb ra

end Go.Im

/-
  Loops: round by round, with what is kept between the rounds.
-/
namespace Go.Im
variable {C : Cfg} {g : Gh} {w : World}

/-! ### forgetting boxes -/
def low0 (n : Nat) : PVal → Bool
  | .ptr b _ => Nat.blt b n
  | .rptr cs _ => allPlain1 cs
  | .func _ _ => false
  | .agg _ => false
  | .tup _ => false
  | .iface _ _ => false
  | _ => true
def allLow0 (n : Nat) : List PVal → Bool
  | [] => true
  | x :: r => match low0 n x with | true => allLow0 n r | false => false
def low (n : Nat) : PVal → Bool
  | .func _ cs => allLow0 n cs
  | .agg cs => allLow0 n cs
  | v => low0 n v
def allLow (n : Nat) : List PVal → Bool
  | [] => true
  | x :: r => match low n x with | true => allLow n r | false => false

def Gh.cut (g : Gh) (n : Nat) : Gh := { role := g.role, β := fun b => if b < n then g.β b else none }

theorem allLow0_iff (n : Nat) : ∀ l : List PVal, allLow0 n l = true → ∀ x ∈ l, low0 n x = true
  | [], _ => by simp
  | x :: r, h => by
    unfold allLow0 at h
    cases hx : low0 n x with
    | false => rw [hx] at h; cases h
    | true => rw [hx] at h; intro y hy; rcases List.mem_cons.1 hy with e | e
              · subst e; exact hx
              · exact allLow0_iff n r h y e
theorem allLow_iff (n : Nat) : ∀ l : List PVal, allLow n l = true → ∀ x ∈ l, low n x = true
  | [], _ => by simp
  | x :: r, h => by
    unfold allLow at h
    cases hx : low n x with
    | false => rw [hx] at h; cases h
    | true => rw [hx] at h; intro y hy; rcases List.mem_cons.1 hy with e | e
              · subst e; exact hx
              · exact allLow_iff n r h y e

theorem RelV.cut0 {n : Nat} {p : PVal} {v : Value} (r : RelV g w p v) (h : low0 n p = true) : RelV (g.cut n) w p v := by
  cases p with
  | ptr b off =>
    cases r with
    | ptr _ _ blk hb => exact .ptr _ _ blk (by simp only [Gh.cut]; rw [if_pos (show b < n from Nat.le_of_ble_eq_true h)]; exact hb)
  | rptr cs off =>
    cases r with
    | rptr _ _ blk base f hro hc hr => exact .rptr cs off blk base f hro hc fun j pv hj => (hr j pv hj).noPtr ((allPlain1_iff cs).1 h pv (List.mem_of_getElem? hj)) fun _ => rfl
  | func _ _ => cases h
  | agg _ => cases h
  | tup _ => cases h
  | iface _ _ => cases h
  | _ => exact r.noPtr rfl fun _ => rfl
theorem RelV.cut {n : Nat} {p : PVal} {v : Value} (r : RelV g w p v) (h : low n p = true) : RelV (g.cut n) w p v := by
  cases p with
  | func f cs =>
    cases r with
    | func _ _ vs hl hr => exact .func f cs vs hl fun j pv hj => (hr j pv hj).cut0 (allLow0_iff n cs h pv (List.mem_of_getElem? hj))
  | agg cs =>
    cases r with
    | agg _ vs hl hr => exact .agg cs vs hl fun j pv hj => (hr j pv hj).cut0 (allLow0_iff n cs h pv (List.mem_of_getElem? hj))
  | _ => exact r.cut0 h

/-! ### what is kept -/
def lookT : List (Nat × PVal) → Nat → PVal
  | [], _ => .undef
  | (k, v) :: r, t => match Nat.beq t k with | true => v | false => lookT r t
def lookB : List (Nat × Option (List PVal)) → Nat → Option (List PVal)
  | [], _ => none
  | (k, v) :: r, t => match Nat.beq t k with | true => v | false => lookB r t
def lowT (n : Nat) : List (Nat × PVal) → Bool
  | [] => true
  | (_, v) :: r => match low n v with | true => lowT n r | false => false
def lowB (n : Nat) : List (Nat × Option (List PVal)) → Bool
  | [] => true
  | (b, some cs) :: r => match Nat.blt b n, allLow n cs with | true, true => lowB n r | _, _ => false
  | (_, none) :: r => lowB n r
def keepT (l : List Nat) (tm : Nat → PVal) : List (Nat × PVal) := l.map fun t => (t, tm t)
def keepB (l : List Nat) (bx : Boxes) : List (Nat × Option (List PVal)) := l.map fun b => (b, bx b)

def norm (keep kb : List Nat) (nb0 : Nat) (st : St) : St :=
  { tm := lookT (keepT keep st.tm), bx := lookB (keepB kb st.bx), nb := nb0, n := st.n,
    ok := andB st.ok (match lowT nb0 (keepT keep st.tm), lowB nb0 (keepB kb st.bx) with | true, true => true | _, _ => false), dirty := [] }

theorem norm_resp {keep kb : List Nat} {nb0 : Nat} : ∀ s, (norm keep kb nb0 s).ok = true → s.ok = true := fun s h => (andB_true h).1

theorem lookT_spec (n : Nat) (tm : Nat → PVal) (t : Nat) : ∀ l, lowT n (keepT l tm) = true → lookT (keepT l tm) t = .undef ∨ (lookT (keepT l tm) t = tm t ∧ low n (tm t) = true)
  | [], _ => .inl rfl
  | k :: l, h => by
    simp only [keepT, List.map_cons, lowT] at h
    simp only [keepT, List.map_cons, lookT]
    cases hl : low n (tm k) with
    | false => rw [hl] at h; cases h
    | true =>
      rw [hl] at h
      cases hb : Nat.beq t k with
      | true => obtain rfl := Nat.eq_of_beq_eq_true hb; exact .inr ⟨rfl, hl⟩
      | false => exact lookT_spec n tm t l h
theorem lookB_spec (n : Nat) (bx : Boxes) (t : Nat) : ∀ l, lowB n (keepB l bx) = true → ∀ cs, lookB (keepB l bx) t = some cs → bx t = some cs ∧ t < n ∧ allLow n cs = true
  | [], _, cs, h => by cases h
  | k :: l, h, cs, hc => by
    simp only [keepB, List.map_cons, lookB] at hc
    cases hb : Nat.beq t k with
    | true =>
      rw [hb] at hc
      simp only at hc
      obtain rfl := Nat.eq_of_beq_eq_true hb
      simp only [keepB, List.map_cons, hc, lowB] at h
      split at h <;> (try (cases h; done))
      rename_i q1 q2
      exact ⟨hc, Nat.le_of_ble_eq_true q1, q2⟩
    | false =>
      rw [hb] at hc
      refine lookB_spec n bx t l ?_ cs hc
      simp only [keepB, List.map_cons] at h
      cases hk : bx k with
      | none => rw [hk] at h; exact h
      | some c =>
        rw [hk] at h
        simp only [lowB] at h
        split at h <;> (try (cases h; done))
        exact h

theorem RelSt.norm {keep kb : List Nat} {nb0 : Nat} {st : St} {a : Act} (R : RelSt g w st a) (h : (norm keep kb nb0 st).ok = true) : RelSt (g.cut nb0) w (norm keep kb nb0 st) a := by
  have h2 := (andB_true h).2
  split at h2 <;> (try (cases h2; done))
  rename_i hT hB
  refine ⟨⟨R.inv.dflt, fun b blk hb => ?_, fun b b' blk hb hb' => ?_⟩, ⟨fun b cs hb => ?_⟩, fun t => ?_, R.size, R.defers, fun b hb => ?_⟩
  · simp only [Gh.cut] at hb
    split at hb
    · exact R.inv.ex b blk hb
    · cases hb
  · simp only [Gh.cut] at hb hb'
    split at hb <;> split at hb'
    · exact R.inv.inj _ _ _ hb hb'
    · cases hb'
    · cases hb
    · cases hb
  · obtain ⟨h3, h4, h5⟩ := lookB_spec nb0 st.bx b kb hB cs hb
    obtain ⟨blk, cells, T, q1, q2, q3⟩ := R.bx.at_ b cs h3
    refine ⟨blk, cells, T, by simp only [Gh.cut]; rw [if_pos h4]; exact q1, q2, q3.1, fun j pv hj => ?_⟩
    obtain ⟨v, hv, rv⟩ := q3.2 j pv hj
    exact ⟨v, hv, rv.cut (allLow_iff nb0 cs h5 pv (List.mem_of_getElem? hj))⟩
  · rcases lookT_spec nb0 st.tm t keep hT with e | ⟨e, hl⟩
    · simp only [Im.norm]; rw [e]; exact .undef _
    · simp only [Im.norm]; rw [e]; exact (R.tm t).cut hl
  · simp only [Gh.cut, Im.norm] at hb ⊢
    rw [if_neg (by omega)]

theorem Ext.cut {g0 : Gh} {w0 : World} {n : Nat} (h : Ext g0 w0 g w) (h0 : ∀ b, n ≤ b → g0.β b = none) : Ext g0 w0 (g.cut n) w :=
  ⟨h.size, h.os, h.tape, h.output, h.keep, h.role, fun b x hx => by
    have hlt : b < n := Nat.lt_of_not_le fun hn => by rw [h0 b hn] at hx; cases hx
    simp only [Gh.cut]; rw [if_pos hlt]; exact h.beta b x hx, fun b x hx => by
    simp only [Gh.cut] at hx
    split at hx
    · exact h.fresh b x hx
    · cases hx⟩

/-! ### rounds -/
def loopN (C : Cfg) (body : Code) (keep kb keepX kbX : List Nat) (nb0 : Nat) : Nat → St → (Nat → St → Res) → (St → Res) → Res
  | 0, _, _, _ => Res.bad
  | n + 1, s, kx, kr => exec C body (fun s' => loopN C body keep kb keepX kbX nb0 n (norm keep kb nb0 s') kx kr) (fun i s' => kx i (norm keepX kbX nb0 s')) (fun s' => kr (norm keepX kbX nb0 s')) s

theorem loopN_resp {body : Code} {keep kb keepX kbX : List Nat} {nb0 : Nat} (hL : LOk C body) (kx : Nat → St → Res) (kr : St → Res) (hx : ∀ i, Resp (kx i)) (hr : Resp kr) : ∀ n, Resp fun s => loopN C body keep kb keepX kbX nb0 n s kx kr
  | 0 => fun s h => by cases h
  | n + 1 => exec_resp body _ _ _ hL (fun s h => norm_resp s (loopN_resp hL kx kr hx hr n _ h)) (fun i s h => norm_resp s (hx i _ h)) (fun s h => norm_resp s (hr _ h))

theorem loopN_sound (hm : C.P.follows .mixedOrders = true) (hE : EOk C) (hG : GOk C) {body : Code} {keep kb keepX kbX : List Nat} {nb0 : Nat} (hL : LOk C body) (kx : Nat → St → Res) (kr : St → Res) (hx : ∀ i, Resp (kx i)) (hr : Resp kr) {r : Res} (hrok : r.ok = true)
    {Q : Exit → Act → World → Prop} {g0 : Gh} {w0 : World} (h0 : ∀ b, nb0 ≤ b → g0.β b = none) (K : KOk r Q g0 w0 (fun _ => Res.bad) kx kr) :
    ∀ n (g : Gh) (w : World) (s : St) (a : Act), Ext g0 w0 g w → RelSt g w s a → loopN C body keep kb keepX kbX nb0 n s kx kr = r → Code.rounds C.P body Q n a w
  | 0, g, w, s, a, _, _, h => by rw [← h] at hrok; cases hrok
  | n + 1, g, w, s, a, hE0, R, h => by
    simp only [Code.rounds]
    refine exec_sound hm hE hG hrok (g0 := g0) (w0 := w0) body _ _ _ _ g w s a hL ?_ ?_ ?_ ⟨?_, ?_, ?_⟩ hE0 R h
    · exact fun s h => norm_resp s (loopN_resp hL kx kr hx hr n _ h)
    · exact fun i s h => norm_resp s (hx i _ h)
    · exact fun s h => norm_resp s (hr _ h)
    · intro st' a' g' w' hx' R' h'
      have hok := loopN_resp hL kx kr hx hr n _ (show (loopN C body keep kb keepX kbX nb0 n (norm keep kb nb0 st') kx kr).ok = true by rw [h']; exact hrok)
      exact loopN_sound hm hE hG hL kx kr hx hr hrok h0 K n (g'.cut nb0) w' _ a' (hx'.cut h0) (R'.norm hok) h'
    · intro i st' a' g' w' hx' R' h'
      have hok := hx i _ (show (kx i (norm keepX kbX nb0 st')).ok = true by rw [h']; exact hrok)
      exact K.x i _ a' _ w' (hx'.cut h0) (R'.norm hok) h'
    · intro st' a' g' w' hx' R' h'
      have hok := hr _ (show (kr (norm keepX kbX nb0 st')).ok = true by rw [h']; exact hrok)
      exact K.r _ a' _ w' (hx'.cut h0) (R'.norm hok) h'

/-- a loop's law: what it says where it is all right is what the rounds say -/
theorem soundL_of (hm : C.P.follows .mixedOrders = true) (hE : EOk C) (hG : GOk C) {body : Code} (keep kb keepX kbX : List Nat) (fuel : St → Nat) (hL : LOk C body) {f : LSpec}
    (h : ∀ st kx kr, (∀ i, Resp (kx i)) → Resp kr → (f st kx kr).ok = true → f st kx kr = loopN C body keep kb keepX kbX st.nb (fuel st) (norm keep kb st.nb st) kx kr) : SoundL C body f where
  resp := fun kx kr hx hr st hok => by
    have hok : (f st kx kr).ok = true := hok
    rw [h st kx kr hx hr hok] at hok
    exact norm_resp _ (loopN_resp hL kx kr hx hr _ _ hok)
  run := fun kx kr r Q g0 w0 g w st a hrok hx hr K hE0 R hf => by
    have hok : (f st kx kr).ok = true := by rw [hf]; exact hrok
    have he := h st kx kr hx hr hok
    rw [hf] at he
    have hn : (norm keep kb st.nb st).ok = true := loopN_resp hL kx kr hx hr _ _ (show (loopN C body keep kb keepX kbX st.nb (fuel st) (norm keep kb st.nb st) kx kr).ok = true by rw [← he]; exact hrok)
    have h0 : ∀ b, st.nb ≤ b → g0.β b = none := fun b hb => by
      cases hq : g0.β b with
      | none => rfl
      | some x => have := hE0.beta b x hq; rw [R.free b hb] at this; cases this
    exact wp_loop_rounds _ (loopN_sound hm hE hG hL kx kr hx hr hrok h0 K _ (g.cut st.nb) w _ a (hE0.cut h0) (R.norm hn) he.symm)

end Go.Im

/-
  A seat's functions, one after the other: how their specs are gathered.
-/
namespace Go.Im
variable {C : Cfg} {g : Gh} {w : World}

/-- the outermost loops -/
def loops : Code → List Code
  | .seq a b => loops a ++ loops b
  | .cond _ a b => loops a ++ loops b
  | .block _ c => loops c
  | .loop c => [c]
  | _ => []
theorem lok_of : ∀ (c : Code), (∀ b ∈ loops c, ∀ f, C.L (firstReg b) = some f → SoundL C b f) → LOk C c := by
  intro c
  induction c with
  | seq a b iha ihb => intro h; exact ⟨iha fun b hb => h b (List.mem_append_left _ hb), ihb fun b hb => h b (List.mem_append_right _ hb)⟩
  | cond x a b iha ihb => intro h; exact ⟨iha fun b hb => h b (List.mem_append_left _ hb), ihb fun b hb => h b (List.mem_append_right _ hb)⟩
  | block i c ih => intro h; exact ih h
  | loop c ih => intro h; exact h c (by simp [loops])
  | _ => intro _; trivial
theorem lok_none {c : Code} (h : loops c = []) : LOk C c := lok_of c (by rw [h]; simp)
theorem lok_one {c b : Code} {f : LSpec} (h : loops c = [b]) (hf : C.L (firstReg b) = some f) (hs : SoundL C b f) : LOk C c :=
  lok_of c (by rw [h]; intro b' hb' f' hf'; simp at hb'; subst hb'; rw [hf] at hf'; cases hf'; exact hs)
theorem lok_two {c b b2 : Code} {f f2 : LSpec} (h : loops c = [b, b2]) (hf : C.L (firstReg b) = some f) (hf2 : C.L (firstReg b2) = some f2) (hs : SoundL C b f) (hs2 : SoundL C b2 f2) : LOk C c :=
  lok_of c (by rw [h]; intro b' hb' f' hf'; simp at hb'; rcases hb' with rfl | rfl; rw [hf] at hf'; cases hf'; exact hs; rw [hf2] at hf'; cases hf'; exact hs2)

/-- the n-th of a function's loops -/
def loopAt (f : Func) (n : Nat) : Code := match f.body with | some c => (match (loops c)[n]? with | some b => b | none => .skip) | none => .skip
/-- what stands at a loop's head -/
def headSt (t : List (Nat × PVal)) (b : List (Nat × Option (List PVal))) (nb n : Nat) (ok : Bool) : St := { tm := lookT t, bx := lookB b, nb := nb, n := n, ok := ok, dirty := [] }

/-! ### specs that say less -/
def LeL (xs ys : List PVal) : Prop := xs.length = ys.length ∧ ∀ (j : Nat) (a b : PVal), xs[j]? = some a → ys[j]? = some b → LeV a b
theorem leL_refl (xs : List PVal) : LeL xs xs := ⟨rfl, fun j a b h h' => by rw [h] at h'; cases h'; exact .refl _⟩
theorem leL_nil : LeL [] [] := leL_refl []
theorem leL_cons {x y : PVal} {xs ys : List PVal} (h : LeV x y) (k : LeL xs ys) : LeL (x :: xs) (y :: ys) :=
  ⟨by simp [k.1], fun j a b ha hb => by
    cases j with
    | zero => simp at ha hb; subst ha hb; exact h
    | succ j => exact k.2 j a b (by simpa using ha) (by simpa using hb)⟩
theorem RelL.le {xs ys : List PVal} (h : LeL xs ys) {vs : List Value} (r : RelL g w ys vs) : RelL g w xs vs :=
  ⟨h.1.trans r.1, fun j pv hj => by
    have hlt : j < ys.length := by rw [← h.1]; exact (List.getElem?_eq_some_iff.1 hj).1
    obtain ⟨v, hv, rv⟩ := r.2 j ys[j] (List.getElem?_eq_getElem hlt)
    exact ⟨v, hv, rv.le (h.2 j pv ys[j] hj (List.getElem?_eq_getElem hlt))⟩⟩
theorem leV_tup {xs ys : List PVal} (h : LeL xs ys) : LeV (.tup xs) (.tup ys) := .tup xs ys h.1 h.2
theorem leV_agg {xs ys : List PVal} (h : LeL xs ys) : LeV (.agg xs) (.agg ys) := .agg xs ys h.1 h.2
def LeB (xs ys : List (List PVal)) : Prop := xs.length = ys.length ∧ ∀ (j : Nat) (a b : List PVal), xs[j]? = some a → ys[j]? = some b → LeL a b
theorem leB_refl (xs : List (List PVal)) : LeB xs xs := ⟨rfl, fun j a b h h' => by rw [h] at h'; cases h'; exact leL_refl _⟩
theorem leB_nil : LeB [] [] := leB_refl []
theorem leB_cons {x y : List PVal} {xs ys : List (List PVal)} (h : LeL x y) (k : LeB xs ys) : LeB (x :: xs) (y :: ys) :=
  ⟨by simp [k.1], fun j a b ha hb => by
    cases j with
    | zero => simp at ha hb; subst ha hb; exact h
    | succ j => exact k.2 j a b (by simpa using ha) (by simpa using hb)⟩

theorem CallPost.le {m : Nat} {v v' : PVal} {b b' : List (List PVal)} {e : Ending} {w' : World} (hv : LeV v v') (hb : LeB b b') (h : CallPost g w m v' b' e w') : CallPost g w m v b e w' := by
  obtain ⟨rv, g', h1, h2, h3, h4, h5, h6, h7⟩ := h
  refine ⟨rv, g', h1, h2, h3, ⟨fun k cs hk => ?_⟩, h5.le hv, by rw [hb.1]; exact h6, fun k hk => h7 k (by rw [← hb.1]; exact hk)⟩
  have hlt : k < b'.length := by rw [← hb.1]; exact (List.getElem?_eq_some_iff.1 hk).1
  obtain ⟨blk, cells, T, q1, q2, q3⟩ := h4.at_ k _ (List.getElem?_eq_getElem hlt)
  exact ⟨blk, cells, T, q1, q2, q3.le (hb.2 k cs _ hk (List.getElem?_eq_getElem hlt))⟩

/-- a spec that says no more than the run -/
theorem soundF_le (hm : C.P.follows .mixedOrders = true) (hE : EOk C) (hG : GOk C) {f : Nat} {fn : Func} {c : Code} (hf : C.P.funcs[f]? = some fn) (hb : fn.body = some c) (hL : LOk C c) {S : FSpec}
    (h : ∀ args bxs v bxs', S args bxs = some (true, v, bxs') → args.length ≤ fn.ntmps ∧ ∃ r, runF C fn args bxs = r ∧ r.ok = true ∧ LeV v r.val ∧ LeB bxs' r.bxs) : SoundF C.P f S :=
  fun args bxs v bxs' hS g w rargs inv hfree rb ra => by
    obtain ⟨h1, r, h2, h3, h4, h5⟩ := h args bxs v bxs' hS
    obtain ⟨ok, v2, b2⟩ := r
    simp only at h3 h4 h5
    subst h3
    exact (runF_sound hm hE hG hf hb hL h1 h2 inv hfree rb ra).mono fun e w' hp => hp.le h4 h5

theorem RelB.leB {xs ys : List (List PVal)} (h : LeB xs ys) (r : RelB g w (fun b => ys[b]?)) : RelB g w (fun b => xs[b]?) where
  at_ := fun b cs hb => by
    have hlt : b < ys.length := by rw [← h.1]; exact (List.getElem?_eq_some_iff.1 hb).1
    obtain ⟨blk, cells, T, q1, q2, q3⟩ := r.at_ b _ (List.getElem?_eq_getElem hlt)
    exact ⟨blk, cells, T, q1, q2, q3.le (h.2 b cs _ hb (List.getElem?_eq_getElem hlt))⟩

/-- the same, where what comes in says more than the run needs -/
theorem soundF_le2 (hm : C.P.follows .mixedOrders = true) (hE : EOk C) (hG : GOk C) {f : Nat} {fn : Func} {c : Code} (hf : C.P.funcs[f]? = some fn) (hb : fn.body = some c) (hL : LOk C c) {S : FSpec}
    (h : ∀ args bxs v bxs', S args bxs = some (true, v, bxs') → ∃ args2 bxs2, LeL args2 args ∧ LeB bxs2 bxs ∧ args2.length ≤ fn.ntmps ∧ ∃ r, runF C fn args2 bxs2 = r ∧ r.ok = true ∧ LeV v r.val ∧ LeB bxs' r.bxs) : SoundF C.P f S :=
  fun args bxs v bxs' hS g w rargs inv hfree rb ra => by
    obtain ⟨args2, bxs2, k1, k2, h1, r, h2, h3, h4, h5⟩ := h args bxs v bxs' hS
    obtain ⟨ok, v2, b2⟩ := r
    simp only at h3 h4 h5
    subst h3
    have hl : bxs2.length = bxs.length := k2.1
    have := (runF_sound (g := g) (w := w) hm hE hG hf hb hL h1 h2 inv (by rw [hl]; exact hfree) (rb.leB k2) (ra.le k1)).mono fun e w' hp => CallPost.le h4 h5 hp
    rw [hl] at this
    exact this

/-! ### the specs gathered -/
def lookG : List (Nat × FSpec) → Nat → FSpec
  | [], _ => fun _ _ => none
  | (k, s) :: r, f => match Nat.beq f k with | true => s | false => lookG r f

structure FOk (P : Program) (mode : Nat → Nat) (f : Nat) (S : FSpec) : Prop where
  can : Callable P f
  sound : SoundF P f S
  ro : mode f = 1 → ∀ args bxs ok v bxs', S args bxs = some (ok, v, bxs') → bxs' = bxs

theorem lookG_spec {P : Program} {mode : Nat → Nat} : ∀ (l : List (Nat × FSpec)), (∀ p ∈ l, FOk P mode p.1 p.2) → ∀ f args bxs r, lookG l f args bxs = some r → FOk P mode f (lookG l f)
  | [], _, f, args, bxs, r, h => by cases h
  | (k, s) :: l, hl, f, args, bxs, r, h => by
    simp only [lookG] at h ⊢
    cases hb : Nat.beq f k with
    | true => obtain rfl := Nat.eq_of_beq_eq_true hb; exact hl (f, s) (by simp)
    | false => rw [hb] at h; exact lookG_spec l (fun p hp => hl p (List.mem_cons_of_mem _ hp)) f args bxs r h

theorem gok_of {l : List (Nat × FSpec)} (hC : C.G = lookG l) (hle : ∀ f, C.mode f ≤ 2) (h : ∀ p ∈ l, FOk C.P C.mode p.1 p.2) : GOk C where
  at_ := fun f args bxs r hr => by
    rw [hC] at hr ⊢
    have := lookG_spec l h f args bxs r hr
    exact ⟨this.can, this.sound⟩
  ro := fun f args bxs ok v bxs' hm hr => by
    rw [hC] at hr
    exact (lookG_spec l h f args bxs _ hr).ro hm args bxs ok v bxs' hr
  le := hle

theorem callable_of {P : Program} {f : Nat} {fn : Func} (h1 : P.funcs[f]? = some fn) (h2 : fn.body.isSome = true) (h3 : (fn.name == "runtime.NumGoroutine") = false) : Callable P f := ⟨fn, h1, h2, h3⟩

end Go.Im
