/-
  Calls: a callee's spec, what makes it sound, and how the caller's boxes are handed over and taken back.
-/
import Derived.Test.YtanjpdkglocjpaaMB

namespace Go.Im
variable {C : Cfg} {g : Gh} {w : World}

/-- what a call leaves -/
def CallPost (g : Gh) (w : World) (m : Nat) (v : PVal) (bxs' : List (List PVal)) (e : Ending) (w' : World) : Prop :=
  ∃ rv g', e = .returned rv ∧ Ext g w g' w' ∧ Inv g' w' ∧ RelB g' w' (fun b => bxs'[b]?) ∧ RelV g' w' v rv ∧ m ≤ bxs'.length ∧ (∀ b, bxs'.length ≤ b → g'.β b = none)

def SoundF (P : Program) (f : Nat) (S : FSpec) : Prop :=
  ∀ (args : List PVal) (bxs : List (List PVal)) (v : PVal) (bxs' : List (List PVal)), S args bxs = some (true, v, bxs') →
  ∀ (g : Gh) (w : World) (rargs : Array Value), Inv g w → (∀ b, bxs.length ≤ b → g.β b = none) → RelB g w (fun b => bxs[b]?) → RelL g w args rargs.toList →
    Calls P f rargs w (CallPost g w bxs.length v bxs')

def Callable (P : Program) (f : Nat) : Prop := ∃ fn, P.funcs[f]? = some fn ∧ fn.body.isSome = true ∧ (fn.name == "runtime.NumGoroutine") = false

structure GOk (C : Cfg) : Prop where
  at_ : ∀ f args bxs r, C.G f args bxs = some r → Callable C.P f ∧ SoundF C.P f (C.G f)
  /-- who is said to turn no box gives them back as they came -/
  ro : ∀ f args bxs ok v bxs', C.mode f = 1 → C.G f args bxs = some (ok, v, bxs') → bxs' = bxs
  /-- there are three kinds -/
  le : ∀ f, C.mode f ≤ 2

/-! ### renaming -/
theorem allPlain1_iff : ∀ l : List PVal, allPlain1 l = true ↔ ∀ x ∈ l, noPtr x = true
  | [] => by simp [allPlain1]
  | x :: r => by
    unfold allPlain1
    cases h : noPtr x with
    | true => simp [h, allPlain1_iff r]
    | false => simp [h]
theorem allPlain_iff : ∀ l : List (List PVal), allPlain l = true ↔ ∀ c ∈ l, ∀ x ∈ c, noPtr x = true
  | [] => by simp [allPlain]
  | x :: r => by
    unfold allPlain
    cases h : allPlain1 x with
    | true =>
      simp only [allPlain_iff r]
      exact ⟨fun e c hc => (List.mem_cons.1 hc).elim (fun q => by subst q; exact (allPlain1_iff _).1 h) fun q => e c q, fun e c hc => e c (List.mem_cons_of_mem _ hc)⟩
    | false =>
      have : ¬ ∀ y ∈ x, noPtr y = true := fun e => by rw [(allPlain1_iff x).2 e] at h; cases h
      exact ⟨fun e => by simp at e, fun e => absurd (e x (List.mem_cons_self)) this⟩
theorem mapLeaf_plain {f : Nat → Option Nat} {x : PVal} (h : noPtr x = true) : mapLeaf f x = x := by
  cases x <;> first | rfl | cases h
theorem map_plain {f : Nat → Option Nat} {c : List PVal} (h : ∀ x ∈ c, noPtr x = true) : c.map (mapLeaf f) = c := by
  have : c.map (mapLeaf f) = c.map id := List.map_congr_left fun x hx => mapLeaf_plain (h x hx)
  rw [this]; simp
theorem noPtr_cells (u : U) (x : u.D) : ∀ pv ∈ u.cells x, noPtr pv = true := by
  cases u <;> simp [U.cells, noPtr]
theorem RelV.noPtr {g g' w p v} (r : RelV g w p v) (hp : noPtr p = true) (hr : ∀ b, g'.role b = g.role b) : RelV g' w p v := by
  induction r with
  | undef v => exact .undef v
  | bool b => exact .bool b
  | int k n => exact .int k n
  | str s => exact .str s
  | ptr b off blk hb => cases hp
  | nilp => exact .nilp
  | rptr cs off blk base f hro hc _ ih => cases hp
  | nils => exact .nils
  | slemp u o ad cap ho => exact .slemp u o ad cap ho
  | slice u o l blk base cap f hl ho hro hc _ ih =>
    exact .slice u o l blk base cap f hl ho (by rw [hr]; exact hro) hc fun i x hx j pv hj => ih i x hx j pv hj (noPtr_cells u x pv (List.mem_of_getElem? hj))
  | func f cs vs hl _ ih => cases hp
  | nilf => exact .nilf
  | agg cs vs hl _ ih => cases hp
  | tup cs vs hl _ ih => cases hp
  | iface t p v _ ih => cases hp
  | nili => exact .nili

/-- one numbering of boxes read in another one -/
structure Ren (g g' : Gh) (f : Nat → Option Nat) : Prop where
  role : ∀ b, g'.role b = g.role b
  beta : ∀ b blk k, g.β b = some blk → f b = some k → g'.β k = some blk

theorem RelV.mapLeaf0 {g g' f w p v} (h : Ren g g' f) (r : RelV g w p v) : RelV g' w (mapLeaf0 f p) v := by
  cases p <;> first
    | exact r.noPtr rfl h.role
    | exact .undef v
    | skip
  rename_i b o
  simp only [Im.mapLeaf0]
  cases hf : f b with
  | none => exact .undef _
  | some k => cases r with | ptr _ _ blk hb => exact .ptr _ _ _ (h.beta b blk k hb hf)
theorem RelV.mapLeaf {g g' f w p v} (h : Ren g g' f) (r : RelV g w p v) : RelV g' w (mapLeaf f p) v := by
  unfold Im.mapLeaf
  split
  · rename_i fn cs
    cases r with
    | func _ _ vs hl hr =>
      refine .func _ _ vs (by simpa using hl) fun j pv hj => ?_
      rw [List.getElem?_map] at hj
      cases hc : cs[j]? with
      | none => rw [hc] at hj; cases hj
      | some c => rw [hc] at hj; simp at hj; subst hj; exact (hr j c hc).mapLeaf0 h
  · exact r.mapLeaf0 h
theorem RelL.mapLeaf {g g' f w ps vs} (h : Ren g g' f) (r : RelL g w ps vs) : RelL g' w (ps.map (Im.mapLeaf f)) vs :=
  ⟨by simpa using r.1, fun j pv hj => by
    rw [List.getElem?_map] at hj
    cases hc : ps[j]? with
    | none => rw [hc] at hj; cases hj
    | some c => rw [hc] at hj; simp at hj; subst hj; obtain ⟨v, hv, rv⟩ := r.2 j c hc; exact ⟨v, hv, rv.mapLeaf h⟩⟩
theorem RelV.mapV1 {g g' f w p v} (h : Ren g g' f) (r : RelV g w p v) : RelV g' w (mapV1 f p) v := by
  unfold Im.mapV1
  split
  · obtain ⟨vs, rfl, rl⟩ := r.agg_inv
    have := relV_agg_of (rl.mapLeaf h)
    simpa using this
  · exact r.mapLeaf h
theorem RelV.mapV {g g' f w p v} (h : Ren g g' f) (r : RelV g w p v) : RelV g' w (mapV f p) v := by
  unfold Im.mapV
  split
  · rename_i ps
    obtain ⟨vs, rfl, rl⟩ := r.tup_inv
    have : RelL g' w (ps.map (Im.mapV1 f)) vs.toList :=
      ⟨by simpa using rl.1, fun j pv hj => by
        rw [List.getElem?_map] at hj
        cases hc : ps[j]? with
        | none => rw [hc] at hj; cases hj
        | some c => rw [hc] at hj; simp at hj; subst hj; obtain ⟨v, hv, rv⟩ := rl.2 j c hc; exact ⟨v, hv, rv.mapV1 h⟩⟩
    have := relV_tup_of this
    simpa using this
  · exact r.mapV1 h
theorem RelL.mapV {g g' f w ps vs} (h : Ren g g' f) (r : RelL g w ps vs) : RelL g' w (ps.map (Im.mapV f)) vs :=
  ⟨by simpa using r.1, fun j pv hj => by
    rw [List.getElem?_map] at hj
    cases hc : ps[j]? with
    | none => rw [hc] at hj; cases hj
    | some c => rw [hc] at hj; simp at hj; subst hj; obtain ⟨v, hv, rv⟩ := r.2 j c hc; exact ⟨v, hv, rv.mapV h⟩⟩

/-! ### the lists of numbers -/
theorem memN_iff (x : Nat) : ∀ l : List Nat, memN x l = true ↔ x ∈ l
  | [] => by simp [memN]
  | y :: r => by
    unfold memN
    cases h : Nat.beq x y with
    | true => obtain rfl := Nat.eq_of_beq_eq_true h; simp
    | false =>
      have hne : x ≠ y := fun e => by rw [e] at h; simp at h
      simp [memN_iff x r, hne]
theorem dedup_nodup : ∀ (l acc : List Nat), acc.Nodup → (dedup l acc).Nodup
  | [], acc, h => h
  | x :: r, acc, h => by
    unfold dedup
    cases hm : memN x acc with
    | true => exact dedup_nodup r acc h
    | false =>
      refine dedup_nodup r _ ?_
      have hn : x ∉ acc := fun e => by rw [(memN_iff x acc).2 e] at hm; cases hm
      rw [List.nodup_append]
      exact ⟨h, by simp, fun a ha b hb => by simp at hb; subst hb; exact fun e => hn (e ▸ ha)⟩
theorem idx_spec (b : Nat) : ∀ (l : List Nat) (k n : Nat), idx b l k = some n → k ≤ n ∧ l[n - k]? = some b
  | [], k, n, h => by simp [idx] at h
  | x :: r, k, n, h => by
    unfold idx at h
    cases hb : Nat.beq b x with
    | true => rw [hb] at h; simp at h; subst h; obtain rfl := Nat.eq_of_beq_eq_true hb; simp
    | false =>
      rw [hb] at h
      obtain ⟨h1, h2⟩ := idx_spec b r (k + 1) n h
      refine ⟨by omega, ?_⟩
      have : n - k = (n - (k + 1)) + 1 := by omega
      rw [this]; simpa using h2

theorem boxesAt_get (bx : Boxes) : ∀ (ids : List Nat) (bs : List (List PVal)), boxesAt bx ids = some bs → bs.length = ids.length ∧ ∀ (k : Nat) (c : List PVal), bs[k]? = some c → ∃ b, ids[k]? = some b ∧ bx b = some c
  | [], bs, h => by simp [boxesAt] at h; subst h; simp
  | b :: r, bs, h => by
    unfold boxesAt at h
    split at h <;> (try (cases h; done))
    rename_i c l hc hl
    simp at h; subst h
    obtain ⟨h1, h2⟩ := boxesAt_get bx r l hl
    refine ⟨by simp [h1], fun k d hk => ?_⟩
    cases k with
    | zero => simp at hk; subst hk; exact ⟨b, rfl, hc⟩
    | succ k => obtain ⟨b', x, y⟩ := h2 k d (by simpa using hk); exact ⟨b', by simpa using x, y⟩

theorem putBoxes_get (f : Nat → Option Nat) : ∀ (ids : List Nat) (cs : List (List PVal)) (bx : Boxes) (b : Nat), ids.Nodup → ids.length = cs.length →
    (∀ (k : Nat), ids[k]? = some b → ∃ c : List PVal, cs[k]? = some c ∧ putBoxes f bx ids cs b = some (c.map (mapLeaf f))) ∧ (b ∉ ids → putBoxes f bx ids cs b = bx b)
  | [], cs, bx, b, _, _ => ⟨fun k h => by simp at h, fun _ => by cases cs <;> rfl⟩
  | x :: r, [], bx, b, _, h => by simp at h
  | x :: r, c :: cs, bx, b, hn, hl => by
    rw [List.nodup_cons] at hn
    have ih := putBoxes_get f r cs (upd bx x (some (c.map (mapLeaf f)))) b hn.2 (by simpa using hl)
    simp only [putBoxes]
    refine ⟨fun k hk => ?_, fun hb => ?_⟩
    · cases k with
      | zero =>
        simp at hk; subst hk
        exact ⟨c, rfl, by rw [ih.2 hn.1, upd_same]⟩
      | succ k => obtain ⟨d, h1, h2⟩ := ih.1 k (by simpa using hk); exact ⟨d, by simpa using h1, h2⟩
    · simp only [List.mem_cons, not_or] at hb
      rw [ih.2 hb.2, upd_other _ _ _ _ hb.1]
theorem newBoxes_get (f : Nat → Option Nat) : ∀ (cs : List (List PVal)) (bx : Boxes) (n b : Nat),
    (∀ (k : Nat) (c : List PVal), cs[k]? = some c → b = n + k → newBoxes f bx n cs b = some (c.map (mapLeaf f))) ∧ ((b < n ∨ n + cs.length ≤ b) → newBoxes f bx n cs b = bx b)
  | [], bx, n, b => ⟨fun k c h => by simp at h, fun _ => rfl⟩
  | c :: cs, bx, n, b => by
    have ih := newBoxes_get f cs (upd bx n (some (c.map (mapLeaf f)))) (n + 1) b
    simp only [newBoxes]
    refine ⟨fun k d hk hb => ?_, fun hb => ?_⟩
    · cases k with
      | zero => simp at hk; subst hk; rw [ih.2 (by omega), hb, Nat.add_zero, upd_same]
      | succ k => exact ih.1 k d (by simpa using hk) (by omega)
    · simp only [List.length_cons] at hb
      rw [ih.2 (by omega), upd_other _ _ _ _ (by omega)]

end Go.Im

namespace Go.Im
variable {C : Cfg} {g : Gh} {w : World}

/-- what an operation leaves -/
structure OpPost (g : Gh) (w : World) (new : Nat) (E : Eff) (v : Value) (g' : Gh) (w' : World) : Prop where
  ext : Ext g w g' w'
  inv : Inv g' w'
  bx : RelB g' w' E.bx
  val : RelV g' w' E.val v
  beta : ∀ b, ¬ (new ≤ b ∧ b < new + stride) → g'.β b = g.β b

/-- the ghost that a callee sees -/
def Gh.pass (g : Gh) (ids : List Nat) : Gh := { role := g.role, β := fun k => (ids[k]?).bind g.β }
/-- the ghost that comes back -/
def Gh.back (g g' : Gh) (m new : Nat) : Gh := { role := g'.role, β := fun b => if new ≤ b ∧ b < new + stride then g'.β (m + (b - new)) else g.β b }

theorem nodup_get : ∀ (l : List Nat) (i j a : Nat), l.Nodup → l[i]? = some a → l[j]? = some a → i = j
  | [], i, j, a, _, h, _ => by simp at h
  | x :: l, 0, 0, a, _, _, _ => rfl
  | x :: l, 0, j + 1, a, hn, h, h' => by
    simp at h h'; subst h
    exact absurd (List.mem_of_getElem? h') (List.nodup_cons.1 hn).1
  | x :: l, i + 1, 0, a, hn, h, h' => by
    simp at h h'; subst h'
    exact absurd (List.mem_of_getElem? h) (List.nodup_cons.1 hn).1
  | x :: l, i + 1, j + 1, a, hn, h, h' => by
    simp at h h'
    rw [nodup_get l i j a (List.nodup_cons.1 hn).2 h h']

theorem pass_back {ids : List Nat} {new : Nat} {bx : Boxes} {bs bs' : List (List PVal)} {v : PVal} {e : Ending} {w' : World} {dirty : List (Nat × Nat)}
    (inv : Inv g w) (rb : RelB g w bx) (hfree : ∀ r, r < stride → g.β (new + r) = none) (hnd : ids.Nodup) (hbs : boxesAt bx ids = some bs)
    (h : CallPost (g.pass ids) w bs.length v bs' e w') (hlen : bs'.length ≤ ids.length + stride) :
    ∃ rv g', e = .returned rv ∧ OpPost g w new ⟨mapV (fun k => match ids[k]? with | some b => some b | none => some (new + (k - ids.length))) v, true,
      newBoxes (fun k => match ids[k]? with | some b => some b | none => some (new + (k - ids.length))) (putBoxes (fun k => match ids[k]? with | some b => some b | none => some (new + (k - ids.length))) bx ids (bs'.take ids.length)) new (bs'.drop ids.length), dirty⟩ rv g' w' := by
  obtain ⟨rv, g', he, hext, hinv, hrb, hval, hm, hnone⟩ := h
  obtain ⟨hbl, hbg⟩ := boxesAt_get bx ids bs hbs
  rw [hbl] at hm
  -- each passed box has its block
  have hids : ∀ (k b : Nat), ids[k]? = some b → ∃ blk, g.β b = some blk ∧ g'.β k = some blk := by
    intro k b hk
    have hkl : k < bs.length := by rw [hbl]; exact (List.getElem?_eq_some_iff.1 hk).1
    obtain ⟨b', h1, h2⟩ := hbg k bs[k] (List.getElem?_eq_getElem hkl)
    rw [hk] at h1; cases h1
    obtain ⟨blk, cells, T, h3, _⟩ := rb.at_ b _ h2
    exact ⟨blk, h3, hext.beta k blk (by simp [Gh.pass, hk, h3])⟩
  have hpn : ∀ k, ids.length ≤ k → (g.pass ids).β k = none := by
    intro k hk
    simp [Gh.pass, List.getElem?_eq_none hk]
  have hout : ∀ b blk, g.β b = some blk → ¬ (new ≤ b ∧ b < new + stride) := by
    rintro b blk hb ⟨h1, h2⟩
    have := hfree (b - new) (by omega)
    rw [Nat.add_sub_cancel' h1, hb] at this
    cases this
  have hbeta : ∀ b blk, g.β b = some blk → (g.back g' ids.length new).β b = some blk := by
    intro b blk hb
    simp only [Gh.back]; rw [if_neg (hout b blk hb)]; exact hb
  have hnew : ∀ k x, g'.β k = some x → ids.length ≤ k → w.heap.size ≤ x ∧ k < bs'.length := by
    intro k x hk hl
    refine ⟨?_, Nat.lt_of_not_le fun hn => by rw [hnone k hn] at hk; cases hk⟩
    rcases hext.fresh k x hk with h1 | h1
    · rw [hpn k hl] at h1; cases h1
    · exact h1
  have hExt : Ext g w (g.back g' ids.length new) w' := by
    refine ⟨hext.size, hext.os, hext.tape, hext.output, fun blk hb hn => hext.keep blk hb fun k hk => ?_, hext.role, hbeta, fun b x hx => ?_⟩
    · simp only [Gh.pass] at hk
      cases hi : ids[k]? with
      | none => rw [hi] at hk; cases hk
      | some b => rw [hi] at hk; exact hn b hk
    · simp only [Gh.back] at hx
      split at hx
      · exact .inr (hnew _ _ hx (by omega)).1
      · exact .inl hx
  have hInv : Inv (g.back g' ids.length new) w' := by
    refine ⟨hinv.dflt, fun b blk hb => ?_, fun b b' blk hb hb' => ?_⟩
    · simp only [Gh.back] at hb
      split at hb
      · exact hinv.ex _ _ hb
      · have := inv.ex b blk hb
        exact ⟨(hext.role blk this.2).trans this.1, Nat.lt_of_lt_of_le this.2 hext.size⟩
    · simp only [Gh.back] at hb hb'
      split at hb <;> split at hb'
      · have := hinv.inj _ _ _ hb hb'; omega
      · have h1 := (hnew _ _ hb (by omega)).1
        have h2 := (inv.ex _ _ hb').2; omega
      · have h1 := (hnew _ _ hb' (by omega)).1
        have h2 := (inv.ex _ _ hb).2; omega
      · exact inv.inj _ _ _ hb hb'
  have hRen : Ren g' (g.back g' ids.length new) (fun k => match ids[k]? with | some b => some b | none => some (new + (k - ids.length))) := by
    refine ⟨fun _ => rfl, fun k blk b hk hb => ?_⟩
    try simp only at hb
    cases hi : ids[k]? with
    | some b' =>
      rw [hi] at hb; simp at hb; subst hb
      obtain ⟨blk', h1, h2⟩ := hids k b' hi
      rw [hk] at h2; cases h2
      exact hbeta _ _ h1
    | none =>
      rw [hi] at hb; simp at hb; subst hb
      have hkl : ids.length ≤ k := List.getElem?_eq_none_iff.1 hi
      have := hnew k blk hk hkl
      simp only [Gh.back]
      rw [if_pos (by omega)]
      have e : ids.length + (new + (k - ids.length) - new) = k := by omega
      rw [e]; exact hk
  refine ⟨rv, _, he, hExt, hInv, ⟨fun b cs hb => ?_⟩, hval.mapV hRen, fun b hb => by simp only [Gh.back]; rw [if_neg hb]⟩
  have hdl : (bs'.drop ids.length).length = bs'.length - ids.length := by simp
  have htl : ids.length = (bs'.take ids.length).length := by simp; omega
  by_cases hr : new ≤ b ∧ b < new + (bs'.length - ids.length)
  · -- a box that came back
    have hk : ids.length + (b - new) < bs'.length := by omega
    have hg := (newBoxes_get (fun k => match ids[k]? with | some b => some b | none => some (new + (k - ids.length))) (bs'.drop ids.length) (putBoxes (fun k => match ids[k]? with | some b => some b | none => some (new + (k - ids.length))) bx ids (bs'.take ids.length)) new b).1 (b - new) bs'[ids.length + (b - new)] (by rw [List.getElem?_drop]; exact List.getElem?_eq_getElem hk) (by omega)
    try simp only at hb
    rw [hg] at hb
    cases hb
    obtain ⟨blk, cells, T, h1, h2, h3⟩ := hrb.at_ (ids.length + (b - new)) _ (List.getElem?_eq_getElem hk)
    refine ⟨blk, cells, T, ?_, h2, h3.mapLeaf hRen⟩
    simp only [Gh.back]; rw [if_pos (by omega)]; exact h1
  · have hg := (newBoxes_get (fun k => match ids[k]? with | some b => some b | none => some (new + (k - ids.length))) (bs'.drop ids.length) (putBoxes (fun k => match ids[k]? with | some b => some b | none => some (new + (k - ids.length))) bx ids (bs'.take ids.length)) new b).2 (by omega)
    try simp only at hb
    rw [hg] at hb
    have hp := putBoxes_get (fun k => match ids[k]? with | some b => some b | none => some (new + (k - ids.length))) ids (bs'.take ids.length) bx b hnd htl
    by_cases hmem : b ∈ ids
    · obtain ⟨k, hk⟩ := List.mem_iff_getElem?.1 hmem
      obtain ⟨c, hc, hput⟩ := hp.1 k hk
      rw [hput] at hb; cases hb
      have hkl : k < ids.length := (List.getElem?_eq_some_iff.1 hk).1
      rw [List.getElem?_take, if_pos hkl] at hc
      obtain ⟨blk, cells, T, h1, h2, h3⟩ := hrb.at_ k c hc
      obtain ⟨blk', h4, h5⟩ := hids k b hk
      rw [h1] at h5; cases h5
      exact ⟨blk, cells, T, hbeta _ _ h4, h2, h3.mapLeaf hRen⟩
    · rw [hp.2 hmem] at hb
      obtain ⟨blk, cells, T, h1, h2, h3⟩ := rb.at_ b cs hb
      refine ⟨blk, cells, T, hbeta _ _ h1, ?_, h3.mono (hExt.le inv)⟩
      rw [← h2]
      refine hext.keep blk (inv.ex _ _ h1).2 fun k hk => ?_
      simp only [Gh.pass] at hk
      cases hi : ids[k]? with
      | none => rw [hi] at hk; cases hk
      | some b' =>
        rw [hi] at hk
        have := inv.inj _ _ _ hk h1
        subst this
        exact hmem (List.mem_of_getElem? hi)

theorem sound_call (hG : GOk C) {f : Nat} {args : List PVal} {rargs : Array Value} {lim new : Nat} {bx : Boxes} {dirty : List (Nat × Nat)}
    (inv : Inv g w) (rb : RelB g w bx) (hfree : ∀ r, r < stride → g.β (new + r) = none) (ra : RelL g w args rargs.toList) (hok : (callEff C f args (C.mode f) lim new bx dirty).ok = true) :
    Callable C.P f ∧ Calls C.P f rargs w fun e w' => ∃ rv g', e = .returned rv ∧ OpPost g w new (callEff C f args (C.mode f) lim new bx dirty) rv g' w' := by
  unfold callEff at hok ⊢
  simp only at hok ⊢
  generalize hids : dedup (args.flatMap ptrs) [] = ids at hok ⊢
  have hnd : ids.Nodup := by rw [← hids]; exact dedup_nodup _ _ List.nodup_nil
  cases hlim : ids.all (Nat.blt · lim) with
  | false => rw [hlim] at hok; cases hok
  | true =>
  rw [hlim] at hok
  simp only at hok ⊢
  cases hbs : boxesAt bx ids with
  | none => rw [hbs] at hok; cases hok
  | some bs =>
    rw [hbs] at hok
    simp only at hok ⊢
    obtain ⟨hbl, hbg⟩ := boxesAt_get bx ids bs hbs
    cases hS : C.G f (args.map (mapV fun b => idx b ids 0)) (bs.map fun c => c.map (mapLeaf fun b => idx b ids 0)) with
    | none => rw [hS] at hok; cases hok
    | some r =>
      obtain ⟨ok, v, bs'⟩ := r
      rw [hS] at hok
      simp only at hok ⊢
      have hRen : Ren g (g.pass ids) (fun b => idx b ids 0) := by
        refine ⟨fun _ => rfl, fun b blk k hb hk => ?_⟩
        have := (idx_spec b ids 0 k hk).2
        simp only [Nat.sub_zero] at this
        simp [Gh.pass, this, hb]
      have hcall : ok = true → bs'.length ≤ ids.length + stride → Callable C.P f ∧ Calls C.P f rargs w fun e w' => ∃ rv g', e = .returned rv ∧
          OpPost g w new ⟨mapV (fun k => match ids[k]? with | some b => some b | none => some (new + (k - ids.length))) v, true,
            newBoxes (fun k => match ids[k]? with | some b => some b | none => some (new + (k - ids.length))) (putBoxes (fun k => match ids[k]? with | some b => some b | none => some (new + (k - ids.length))) bx ids (bs'.take ids.length)) new (bs'.drop ids.length), dirty⟩ rv g' w' := by
        intro hok' hle
        subst hok'
        obtain ⟨hc, hs⟩ := hG.at_ _ _ _ _ hS
        refine ⟨hc, (hs _ _ _ _ hS (g.pass ids) w rargs ?_ ?_ ?_ (ra.mapV hRen)).mono fun e w' h => ?_⟩
        · refine ⟨inv.dflt, fun k blk hk => ?_, fun k k' blk hk hk' => ?_⟩
          · simp only [Gh.pass] at hk
            cases hi : ids[k]? with
            | none => rw [hi] at hk; cases hk
            | some b => rw [hi] at hk; exact inv.ex b blk hk
          · simp only [Gh.pass] at hk hk'
            cases hi : ids[k]? with
            | none => rw [hi] at hk; cases hk
            | some b =>
              cases hi' : ids[k']? with
              | none => rw [hi'] at hk'; cases hk'
              | some b' =>
                rw [hi] at hk; rw [hi'] at hk'
                have := inv.inj _ _ _ hk hk'
                subst this
                exact nodup_get _ _ _ _ hnd hi hi'
        · intro k hk
          simp only [List.length_map] at hk
          simp [Gh.pass, List.getElem?_eq_none (show ids.length ≤ k by omega)]
        · refine ⟨fun k cs hk => ?_⟩
          rw [List.getElem?_map] at hk
          cases hc' : bs[k]? with
          | none => rw [hc'] at hk; cases hk
          | some c =>
            rw [hc'] at hk
            simp at hk; subst hk
            obtain ⟨b, h1, h2⟩ := hbg k c hc'
            obtain ⟨blk, cells, T, h3, h4, h5⟩ := rb.at_ b c h2
            exact ⟨blk, cells, T, by simp [Gh.pass, h1, h3], h4, h5.mapLeaf hRen⟩
        · rw [List.length_map] at h
          exact pass_back inv rb hfree hnd hbs h hle
      split at hok
      · split at hok
        · obtain ⟨h1, h2⟩ := hcall hok (by simp)
          refine ⟨h1, h2.mono fun e w' ⟨rv, g', he, hp⟩ => ⟨rv, g', he, ⟨hp.ext, hp.inv, hp.bx, hp.val, hp.beta⟩⟩⟩
        · cases hok
      · rename_i hmode
        cases hpl : allPlain bs with
        | false => rw [hpl] at hok; cases hok
        | true =>
          rw [hpl] at hok
          simp only at hok
          have hplain := (allPlain_iff bs).1 hpl
          have hbs' : bs' = bs := by
            rw [hG.ro _ _ _ _ _ _ hmode hS]
            have : (bs.map fun c => c.map (mapLeaf fun b => idx b ids 0)) = bs.map id := List.map_congr_left fun c hc => map_plain (hplain c hc)
            rw [this]; simp
          subst hbs'
          obtain ⟨h1, h2⟩ := hcall hok (by omega)
          refine ⟨h1, h2.mono fun e w' ⟨rv, g', he, hp⟩ => ⟨rv, g', he, ⟨hp.ext, hp.inv, ⟨fun b cs hb => ?_⟩, hp.val, hp.beta⟩⟩⟩
          refine hp.bx.at_ b cs ?_
          try simp only at hb
          rw [List.drop_eq_nil_of_le (by omega), List.take_of_length_le (by omega)]
          simp only [newBoxes]
          have hpg := putBoxes_get (fun k => match ids[k]? with | some b => some b | none => some (new + (k - ids.length))) ids bs' bx b hnd hbl.symm
          by_cases hm : b ∈ ids
          · obtain ⟨k, hk⟩ := List.mem_iff_getElem?.1 hm
            obtain ⟨c, hc, hput⟩ := hpg.1 k hk
            obtain ⟨b', hb', hbx⟩ := hbg k c hc
            rw [hk] at hb'; cases hb'
            rw [hput, map_plain (hplain c (List.mem_of_getElem? hc)), ← hb]; exact hbx.symm
          · rw [hpg.2 hm]; exact hb
      · split at hok <;> (try (cases hok; done))
        rename_i q1 q2
        obtain ⟨h1, h2⟩ := hcall hok (Nat.le_of_ble_eq_true q2)
        refine ⟨h1, h2.mono fun e w' ⟨rv, g', he, hp⟩ => ⟨rv, g', he, ⟨hp.ext, hp.inv, hp.bx, hp.val, hp.beta⟩⟩⟩

end Go.Im

namespace Go.Im
variable {C : Cfg} {g : Gh} {w : World}

def OpRun (P : Program) (K : Value → World → Prop) : Result Next → Prop
  | .ok (.value v) w => K v w
  | .ok .skip w => K Go.undef w
  | .ok (.enter f args) w => Calls P f args w fun e w' => ∃ v, e = .returned v ∧ K v w'
  | _ => False

theorem opRun_upon {P : Program} {K : Value → World → Prop} {o : Oper} {a : Act} {next : Act → World → Prop} {Q : Exit → Act → World → Prop} {r : Result Next} (h : OpRun P K r) (hk : ∀ v w', K v w' → next (a.put o.dst v) w') : o.upon P a next Q r := by
  cases r with
  | ok n w' =>
    cases n <;> simp only [OpRun] at h <;> simp only [Oper.upon]
    · exact hk _ _ h
    · exact hk _ _ h
    · refine h.mono fun e w'' ⟨v, he, hv⟩ => ?_
      subst he
      exact hk _ _ hv
  | halt x w' => simp only [OpRun] at h

/-- the operands that an operation needs stand -/
def Reads (g : Gh) (w : World) (rd : Operand → PVal) (ev : Operand → Value) : Op → Prop
  | .pick c a b => RelV g w (rd c) (ev c) ∧ ∀ t, rd c = .bool t → RelV g w (rd (bif t then a else b)) (ev (bif t then a else b))
  | o => ∀ x ∈ o.operands.toList, RelV g w (rd x) (ev x)

theorem post_same {new : Nat} {E : Eff} {v : Value} (inv : Inv g w) (rb : RelB g w E.bx) (h : RelV g w E.val v) : OpPost g w new E v g w :=
  ⟨Ext.refl g w, inv, rb, h, fun _ _ => rfl⟩
theorem post_app {new : Nat} {E : Eff} {v : Value} {g' : Gh} {w' : World} (inv : Inv g w) (rb : RelB g w E.bx) (ha : AppPost g w g' w') (h : RelV g' w' E.val v) : OpPost g w new E v g' w' :=
  ⟨ha.ext, ha.inv, rb.of_ext_same inv ha.ext fun b blk hb => ha.keep blk (inv.ex b blk hb).2, h, fun b _ => by rw [ha.beta]⟩

theorem appBase_spec {u : U} {p : PVal} {v : Value} {l : List u.D} (rp : RelV g w p v) (h : appBase u p = some (true, l)) :
    ∃ (a : Option Addr) (cs : List Value), v = .slice a l.length l.length ∧ cs.length = l.length * u.size ∧ (∀ j x, cs[j]? = some x → ∃ ad, a = some ad ∧ w.cell? (ad.add j) = some x) ∧ (a = none → l = []) ∧
      (∀ (i : Nat) (x : u.D), l[i]? = some x → ∀ (j : Nat) (pv : PVal), (u.cells x)[j]? = some pv → ∃ y, cs[i * u.size + j]? = some y ∧ RelV g w pv y) ∧ RelV g w (.slice u false l) v := by
  unfold appBase at h
  split at h
  · simp only [Option.some.injEq, Prod.mk.injEq, true_and] at h
    subst h
    cases rp
    exact ⟨none, [], rfl, by simp, by simp, fun _ => rfl, by simp, .slemp _ _ _ _ (by simp)⟩
  · rename_i u' o' l'
    split at h <;> (try (cases h; done))
    rename_i l'' hc
    simp only [Option.some.injEq, Prod.mk.injEq] at h
    obtain ⟨rfl, rfl⟩ := h
    obtain ⟨e1, e2⟩ := U.castL_some hc
    subst e1
    subst e2
    obtain ⟨a, cap, cs, rfl, h1, h2, h3, h4, h5⟩ := slice_cells rp
    refine ⟨a, cs, by rw [h2 rfl], h3, h4, fun ha => ?_, h5, rp.le (.slice _ _ _ _ (by simp))⟩
    cases l' with
    | nil => rfl
    | cons x r =>
      exfalso
      have hl : 0 < cs.length := by rw [h3]; exact Nat.mul_pos (by simp) (U.size_pos _)
      obtain ⟨ad, h6, _⟩ := h4 0 cs[0] (List.getElem?_eq_getElem hl)
      rw [ha] at h6; cases h6
  · cases h
theorem appMore_spec {u : U} {p : PVal} {v : Value} {m : List u.D} (rp : RelV g w p v) (h : appMore u p = some m) :
    ∃ (a : Option Addr) (c : Nat) (cs : List Value), v = .slice a m.length c ∧ cs.length = m.length * u.size ∧ (∀ j x, cs[j]? = some x → ∃ ad, a = some ad ∧ w.cell? (ad.add j) = some x) ∧ (a = none → m = []) ∧
      (∀ (i : Nat) (x : u.D), m[i]? = some x → ∀ (j : Nat) (pv : PVal), (u.cells x)[j]? = some pv → ∃ y, cs[i * u.size + j]? = some y ∧ RelV g w pv y) := by
  unfold appMore at h
  split at h
  · simp only [Option.some.injEq] at h
    subst h
    cases rp
    exact ⟨none, 0, [], rfl, by simp, by simp, fun _ => rfl, by simp⟩
  · rename_i u' o' l'
    obtain ⟨e1, e2⟩ := U.castL_some h
    subst e1
    subst e2
    obtain ⟨a, cap, cs, rfl, h1, h2, h3, h4, h5⟩ := slice_cells rp
    refine ⟨a, cap, cs, rfl, h3, h4, fun ha => ?_, h5⟩
    cases l' with
    | nil => rfl
    | cons x r =>
      exfalso
      have hl : 0 < cs.length := by rw [h3]; exact Nat.mul_pos (by simp) (U.size_pos _)
      obtain ⟨ad, h6, _⟩ := h4 0 cs[0] (List.getElem?_eq_getElem hl)
      rw [ha] at h6; cases h6
  · cases h

theorem sound_append (hE : EOk C) (inv : Inv g w) {t ty : Nat} {p q : PVal} {u v : Value} (rp : RelV g w p u) (rq : RelV g w q v) (hok : (evAppend C t p q).2 = true) :
    ∃ z g' w', (Builtin.append_ #[t, t] ty #[u, v]).run C.P w = .ok z w' ∧ AppPost g w g' w' ∧ RelV g' w' (evAppend C t p q).1 z := by
  unfold evAppend at hok ⊢
  cases hu : C.P.underlying t with
  | none => rw [hu] at hok; cases hok
  | some d =>
    rw [hu] at hok
    cases d <;> (try (simp only at hok; cases hok; done))
    rename_i e
    simp only at hok ⊢
    cases he : C.E e with
    | none => rw [he] at hok; simp only at hok; cases hok
    | some uu =>
      rw [he] at hok
      simp only at hok ⊢
      obtain ⟨inf, zv, hi, hs, _, hb, _, hz, _⟩ := hE.at_ e uu he
      cases hB : appBase uu p with
      | none => rw [hB] at hok; cases hok
      | some B =>
        obtain ⟨o, l⟩ := B
        cases hM : appMore uu q with
        | none => rw [hB, hM] at hok; cases hok
        | some m =>
          rw [hB, hM] at hok
          simp only at hok ⊢
          cases o with
          | false => cases hok
          | true =>
            simp only at hok
            have hlim : l.length + m.length ≤ appLim := Nat.le_of_ble_eq_true hok
            obtain ⟨a, cs, rfl, h1, h2, h3, h4, h5⟩ := appBase_spec rp hB
            obtain ⟨b, c, ds, rfl, k1, k2, k3, k4⟩ := appMore_spec rq hM
            by_cases hm : 0 < m.length
            · exact sound_append_at inv hi hs hb hz hu rfl hlim h1 h2 k1 k2 h3 k3 h4 k4 hm
            · have hm0 : m = [] := List.eq_nil_of_length_eq_zero (by omega)
              subst hm0
              refine ⟨.slice a l.length l.length, g, w, ?_, ⟨Ext.refl g w, inv, rfl, fun _ _ => rfl⟩, by simpa using h5⟩
              have hst : ∀ (ad : Addr), (storeCells ad ([] : List Value)).run C.P w = .ok () w := fun _ => rfl
              have hlc : ∀ (ad : Addr), (loadCells ad 0).run C.P w = .ok #[] w := fun _ => rfl
              cases a with
              | none => cases b <;> simp [Builtin.append_, run_underlying' hu, run_sizeOf hi, Builtin.lenOf, Builtin.firstCells, hlc]
              | some ad => cases b <;> simp [Builtin.append_, run_underlying' hu, run_sizeOf hi, Builtin.lenOf, Builtin.firstCells, hlc, hst]

end Go.Im

namespace Go.Im
variable {C : Cfg} {g : Gh} {w : World}

theorem sound_index {t : Nat} {p i : PVal} {u j : Value} (rp : RelV g w p u) (ri : RelV g w i j) (h : (evIndex C t p i).2 = true) :
    ∃ z, (Instr.index t u j).run C.P w = .ok z w ∧ RelV g w (evIndex C t p i).1 z := by
  unfold evIndex at h ⊢
  cases ri <;> (try (cases h; done))
  rename_i k n
  simp only at h ⊢
  cases hu : C.P.underlying t with
  | none => rw [hu] at h; cases h
  | some d =>
    rw [hu] at h
    cases d <;> (try (simp only at h; cases h; done))
    case string =>
      cases rp <;> (try (simp only at h; cases h; done))
      case str s =>
        simp only at h
        have h1 : 0 ≤ n := of_decide_eq_true (Bool.and_eq_true_iff.1 h).1
        have h2 : n < s.length := of_decide_eq_true (Bool.and_eq_true_iff.1 h).2
        have h3 : n.toNat < s.length := by omega
        refine ⟨.int .u8 ((s.getD n.toNat 0).toNat : Int), ?_, .int _ _⟩
        have hget : (⟨s.toArray⟩ : ByteArray)[n.toNat]? = some (s.getD n.toNat 0) := by
          have hs : n.toNat < (⟨s.toArray⟩ : ByteArray).size := h3
          rw [getElem?_pos (⟨s.toArray⟩ : ByteArray) n.toNat hs]
          simp only [List.getD]
          rw [List.getElem?_eq_getElem h3]
          rfl
        simp only [Instr.index, asIntOf, Sem.run_bind, Sem.run_pure, Result.andThen_ok, run_underlying' hu, if_pos h1, hget]
    case array len e =>
      cases rp <;> (try (simp only at h; cases h; done))
      case agg cs vs hl hr =>
        simp only at h
        cases hp : (partV C e cs (n.toNat * C.P.cellsOf e)).2 with
        | false => rw [hp] at h; cases h
        | true =>
          rw [hp] at h
          simp only at h
          have h1 : 0 ≤ n := of_decide_eq_true (Bool.and_eq_true_iff.1 h).1
          have h2 : n < len := of_decide_eq_true (Bool.and_eq_true_iff.1 h).2
          obtain ⟨vs', hvs, rl⟩ := (RelV.agg (g := g) (w := w) cs vs hl hr).agg_inv
          cases hvs
          obtain ⟨v, hv, rv, _⟩ := run_part rl hp
          have hinfo : ∃ i, C.P.info? e = some i := by
            unfold partV at hp
            cases ha : aggT C e with
            | none => rw [ha] at hp; cases hp
            | some b => exact info_of_agg ha
          obtain ⟨inf, hi⟩ := hinfo
          refine ⟨v, ?_, rv⟩
          simp only [Instr.index, asIntOf, Sem.run_bind, Sem.run_pure, Result.andThen_ok, run_underlying' hu]
          rw [if_pos ⟨h1, h2⟩]
          simp only [Sem.run_bind, run_sizeOf hi, Result.andThen_ok]
          simpa using hv

theorem relL_map {rd : Operand → PVal} {ev : Operand → Value} : ∀ (l : List Operand), (∀ x ∈ l, RelV g w (rd x) (ev x)) → RelL g w (l.map rd) (l.map ev)
  | [], _ => relL_nil
  | x :: l, h => relL_cons (h x (by simp)) (relL_map l fun y hy => h y (by simp [hy]))

theorem sound_evOp (hE : EOk C) (hG : GOk C) {o : Oper} {rd : Operand → PVal} {ev : Operand → Value} {lim new : Nat} {bx : Boxes} {dirty : List (Nat × Nat)} (inv : Inv g w) (rb : RelB g w bx)
    (hfree : ∀ r, r < stride → g.β (new + r) = none) (hrd : Reads g w rd ev o.op) (hok : (evOp C rd lim new bx dirty o).ok = true) :
    OpRun C.P (fun v w' => ∃ g', OpPost g w new (evOp C rd lim new bx dirty o) v g' w') ((execOp ev o).run C.P w) := by
  obtain ⟨dst, op, ty, pos, after, guard⟩ := o
  simp only at hrd
  have hnew0 : g.β new = none := by have := hfree 0 (by decide); simpa using this
  cases op <;> (try (simp only [evOp] at hok; cases hok; done))
  case move x =>
    exact ⟨g, post_same inv rb (hrd x (by simp [Op.operands]))⟩
  case assign x =>
    exact ⟨g, post_same inv rb (hrd x (by simp [Op.operands]))⟩
  case pick c a b =>
    obtain ⟨h1, h2⟩ := hrd
    cases hc : rd c <;> (try (simp only [evOp, hc] at hok; cases hok; done))
    rename_i t
    rw [hc] at h1
    have h3 := h2 t hc
    cases hev : ev c with
    | bool t' =>
      rw [hev] at h1; cases h1
      simp only [execOp, hev, Sem.run_bind, asBool, Sem.run_pure, Result.andThen_ok]
      have hm : RelV g w (mergeV t (rd a) (rd b)) (if t = true then ev a else ev b) := by
        cases t
        · exact h3.le (mergeV_le false (rd a) (rd b))
        · exact h3.le (mergeV_le true (rd a) (rd b))
      have hE' : evOp C rd lim new bx dirty ⟨dst, .pick c a b, ty, pos, after, guard⟩ = ⟨mergeV t (rd a) (rd b), true, bx, dirty⟩ := by simp only [evOp, hc]
      rw [hE']
      cases t
      · exact ⟨g, post_same inv rb hm⟩
      · exact ⟨g, post_same inv rb hm⟩
    | _ => rw [hev] at h1; cases h1
  case alloc t =>
    cases hz : zeroCells C t with
    | none => simp only [evOp, hz] at hok; cases hok
    | some z =>
      obtain ⟨i, v, hi, hv, rfl⟩ := zeroCells_spec hz
      simp only [execOp, Instr.alloc, Sem.run_bind, run_zeroValue hi hv, Result.andThen_ok, newVar, newRow, run_newObj, Sem.run_pure]
      have hE' : evOp C rd lim new bx dirty ⟨dst, .alloc t, ty, pos, after, guard⟩ = ⟨.ptr new 0, true, upd bx new (some (v.cells.toList.map zeroLeaf)), dirty⟩ := by simp only [evOp, hz]
      rw [hE']
      refine ⟨g.box new w.heap.size, Ext.box inv new hnew0 _, inv.box new _, RelB.box inv rb new hnew0 v.cells t _ (zeroLeaf_relL _), .ptr _ _ _ (by simp [Gh.box, upd_same]), fun b hb => ?_⟩
      simp only [Gh.box]; rw [upd_other _ _ _ _ (fun e => hb (by subst e; exact ⟨Nat.le_refl _, by simp [stride]⟩))]
  case box t x =>
    have hx := hrd x (by simp [Op.operands])
    simp only [evOp] at hok
    have hne : rd x ≠ .undef := fun e => by rw [e] at hok; cases hok
    simp only [execOp, Instr.box, Sem.run_bind, newVar, newRow, run_newObj, Sem.run_pure, Result.andThen_ok]
    have hE' : evOp C rd lim new bx dirty ⟨dst, .box t x, ty, pos, after, guard⟩ = ⟨.ptr new 0, allOne (rd x).cells, upd bx new (some (rd x).cells), dirty⟩ := by simp only [evOp]
    rw [hE']
    refine ⟨g.box new w.heap.size, Ext.box inv new hnew0 _, inv.box new _, RelB.box inv rb new hnew0 (ev x).cells t _ (hx.cells hne), .ptr _ _ _ (by simp [Gh.box, upd_same]), fun b hb => ?_⟩
    simp only [Gh.box]; rw [upd_other _ _ _ _ (fun e => hb (by subst e; exact ⟨Nat.le_refl _, by simp [stride]⟩))]
  case build t parts =>
    have hr : RelP g w (parts.toList.map fun p => (p.1, rd p.2)) (parts.map fun p => (p.1, ev p.2)).toList := by
      rw [Array.toList_map]
      exact relP_map _ fun x hx => hrd x.2 (by simp [Op.operands]; exact ⟨x.1, by simpa using hx⟩)
    simp only [evOp] at hok
    obtain ⟨v, hv, rv⟩ := sound_build hr hok
    simp only [execOp, Sem.run_bind, hv, Result.andThen_ok, Sem.run_pure]
    exact ⟨g, post_same inv rb rv⟩
  case buildSlice t len parts =>
    have hr : RelP g w (parts.toList.map fun p => (p.1, rd p.2)) (parts.map fun p => (p.1, ev p.2)).toList := by
      rw [Array.toList_map]
      exact relP_map _ fun x hx => hrd x.2 (by simp [Op.operands]; exact ⟨x.1, by simpa using hx⟩)
    simp only [evOp] at hok
    obtain ⟨v, g', w', hv, ha, rv⟩ := sound_buildSlice hE inv hr hok
    simp only [execOp, Sem.run_bind, hv, Result.andThen_ok, Sem.run_pure]
    exact ⟨g', post_app inv rb ha rv⟩
  case load t a =>
    have ha := hrd a (by simp [Op.operands])
    cases hp : rd a <;> (try (simp only [evOp, hp] at hok; cases hok; done))
    case ptr b off =>
      rw [hp] at ha
      simp only [evOp, hp] at hok
      cases hlt : Nat.blt b lim <;> (try (rw [hlt] at hok; cases hok; done))
      rw [hlt] at hok
      simp only at hok
      cases hb : bx b with
      | none => rw [hb] at hok; cases hok
      | some cs =>
        rw [hb] at hok
        simp only at hok
        cases hev : ev a with
        | pointer ad =>
          rw [hev] at ha
          cases ha with
          | ptr _ _ blk hblk =>
            obtain ⟨blk', cells, T, h2, h3, h4⟩ := rb.at_ b cs hb
            rw [hblk] at h2; cases h2
            obtain ⟨v, hv, rv⟩ := run_loadVar_at (C := C) (g := g) (w := w) (t := t) (off := off) blk 0 cells.toList (fun j v hv => by
              rw [Nat.zero_add, cell_of_row w blk j cells T _ h3]; simpa using hv) h4 hok
            rw [Nat.zero_add] at hv
            simp only [execOp, hev, Instr.loadAt, Instr.sureAddr, Sem.run_bind, Sem.run_pure, Result.andThen_ok, hv]
            have hE' : evOp C rd lim new bx dirty ⟨dst, .load t a, ty, pos, after, guard⟩ = ⟨(partV C t cs off).1, (partV C t cs off).2, bx, dirty⟩ := by simp only [evOp, hp, hlt, hb]
            rw [hE']
            exact ⟨g, post_same inv rb rv⟩
        | _ => rw [hev] at ha; cases ha
    case rptr cs off =>
      rw [hp] at ha
      simp only [evOp, hp] at hok
      cases hev : ev a with
      | pointer ad =>
        rw [hev] at ha
        cases ha with
        | rptr _ _ blk base f hro hc hr =>
          have hl : RelL g w cs ((List.range cs.length).map f) := by
            refine ⟨by simp, fun j pv hj => ?_⟩
            have hlt := (List.getElem?_eq_some_iff.1 hj).1
            exact ⟨f j, by rw [List.getElem?_map, List.getElem?_range hlt]; rfl, hr j pv hj⟩
          obtain ⟨v, hv, rv⟩ := run_loadVar_at (C := C) (g := g) (w := w) (t := t) (off := off) blk base ((List.range cs.length).map f) (fun j v hv => by
            rw [List.getElem?_map] at hv
            cases hj : (List.range cs.length)[j]? with
            | none => rw [hj] at hv; cases hv
            | some k =>
              rw [hj] at hv
              obtain ⟨h5, h6⟩ := List.getElem?_eq_some_iff.1 hj
              simp at h5 h6 hv
              subst h6; subst hv
              exact hc _ h5) hl hok
          simp only [execOp, hev, Instr.loadAt, Instr.sureAddr, Sem.run_bind, Sem.run_pure, Result.andThen_ok, hv]
          have hE' : evOp C rd lim new bx dirty ⟨dst, .load t a, ty, pos, after, guard⟩ = ⟨(partV C t cs off).1, (partV C t cs off).2, bx, dirty⟩ := by simp only [evOp, hp]
          rw [hE']
          exact ⟨g, post_same inv rb rv⟩
      | _ => rw [hev] at ha; cases ha
  case store t a x =>
    have ha := hrd a (by simp [Op.operands])
    have hx := hrd x (by simp [Op.operands])
    cases hp : rd a <;> (try (simp only [evOp, hp] at hok; cases hok; done))
    case ptr b off =>
      rw [hp] at ha
      simp only [evOp, hp] at hok
      cases hlt : Nat.blt b lim <;> (try (rw [hlt] at hok; cases hok; done))
      rw [hlt] at hok
      simp only at hok
      cases hb : bx b with
      | none => rw [hb] at hok; cases hok
      | some cs =>
        rw [hb] at hok
        simp only at hok
        cases h1 : Nat.beq (rd x).cells.length (C.P.cellsOf t) <;> (try (rw [h1] at hok; cases hok; done))
        cases h2 : allOne (rd x).cells <;> (try (rw [h1, h2] at hok; cases hok; done))
        cases h3 : (C.P.info? t).isSome <;> (try (rw [h1, h2, h3] at hok; cases hok; done))
        rw [h1, h2, h3] at hok
        simp only at hok
        have hne : rd x ≠ .undef := fun e => by rw [e] at h2; cases h2
        have e1 : (rd x).cells.length = C.P.cellsOf t := Nat.eq_of_beq_eq_true h1
        have hinfo : ∃ i, C.P.info? t = some i := Option.isSome_iff_exists.1 h3
        obtain ⟨inf, hi⟩ := hinfo
        cases hev : ev a with
        | pointer ad =>
          rw [hev] at ha
          cases ha with
          | ptr _ _ blk hblk =>
            obtain ⟨c, hst, hrb⟩ := run_storeVar_box (C := C) hi inv rb hblk hb hx hne e1 h2 (Nat.le_of_ble_eq_true hok)
            simp only [execOp, hev, Instr.storeAt, Instr.sureAddr, Sem.run_bind, Sem.run_pure, Result.andThen_ok, hst]
            have hE' : evOp C rd lim new bx dirty ⟨dst, .store t a x, ty, pos, after, guard⟩ = ⟨.undef, Nat.ble (off + (rd x).cells.length) cs.length, upd bx b (some (splice cs off (rd x).cells)), (List.range (rd x).cells.length).map (fun k => (b, off + k)) ++ dirty⟩ := by simp only [evOp, hp, hlt, hb, h1, h2, h3]
            rw [hE']
            exact ⟨g, Ext.store b blk hblk c, inv.setRow blk c, hrb, .undef _, fun _ _ => rfl⟩
        | _ => rw [hev] at ha; cases ha
  case nilCheck x =>
    have hx := hrd x (by simp [Op.operands])
    cases hp : rd x <;> (try (simp only [evOp, hp] at hok; cases hok; done))
    all_goals
      rw [hp] at hx
      have hE' := hx
      cases hev : ev x <;> (rw [hev] at hx; cases hx)
      all_goals
        rw [hev] at hE'
        simp only [execOp, hev]
        exact ⟨g, post_same inv (by simp only [evOp, hp]; exact rb) (by simp only [evOp, hp]; exact hE')⟩
  case binOp op t x y t2 =>
    have hx := hrd x (by simp [Op.operands])
    have hy := hrd y (by simp [Op.operands])
    simp only [evOp] at hok
    obtain ⟨z, hz, rz⟩ := sound_binOp (x := x) (y := y) hx hy hok
    simp only [execOp]
    rw [Sem.run_bind, hz]
    exact ⟨g, post_same inv rb rz⟩
  case unOp op t x =>
    have hx := hrd x (by simp [Op.operands])
    simp only [evOp] at hok
    obtain ⟨z, hz, rz⟩ := sound_unOp hx hok
    simp only [execOp]
    rw [Sem.run_bind, hz]
    exact ⟨g, post_same inv rb rz⟩
  case convert src dst x =>
    have hx := hrd x (by simp [Op.operands])
    simp only [evOp] at hok
    obtain ⟨z, hz, rz⟩ := sound_conv hx hok
    simp only [execOp]
    rw [Sem.run_bind, hz]
    exact ⟨g, post_same inv rb rz⟩
  case slice t x lo hi mx =>
    have hx := hrd x (by simp [Op.operands])
    simp only [evOp] at hok
    obtain ⟨z, hz, rz⟩ := sound_slice hE hx (relO_map (rd := rd) (ev := ev) (x := lo) fun y hy => hrd y (by simp [Op.operands, hy])) (relO_map (x := hi) fun y hy => hrd y (by simp [Op.operands, hy]))
      (relO_map (x := mx) fun y hy => hrd y (by simp [Op.operands, hy])) hok
    simp only [execOp]
    rw [Sem.run_bind, hz]
    exact ⟨g, post_same inv rb rz⟩
  case fieldAddr s x f =>
    have hx := hrd x (by simp [Op.operands])
    simp only [evOp] at hok
    cases hf : fld C s f with
    | none => rw [hf] at hok; cases hok
    | some q =>
      obtain ⟨off, t⟩ := q
      rw [hf] at hok
      cases hp : rd x <;> (try (rw [hp] at hok; cases hok; done))
      case ptr b o =>
        rw [hp] at hx
        obtain ⟨z, hz, rz⟩ := (sound_fieldAddr hf hx).1 b o rfl
        simp only [execOp]
        rw [Sem.run_bind, hz]
        exact ⟨g, post_same inv (by simp only [evOp, hf, hp]; exact rb) (by simp only [evOp, hf, hp]; exact rz)⟩
      case rptr cs o =>
        rw [hp] at hx
        obtain ⟨z, hz, rz⟩ := (sound_fieldAddr hf hx).2 cs o rfl
        simp only [execOp]
        rw [Sem.run_bind, hz]
        exact ⟨g, post_same inv (by simp only [evOp, hf, hp]; exact rb) (by simp only [evOp, hf, hp]; exact rz)⟩
  case field s x f =>
    have hx := hrd x (by simp [Op.operands])
    simp only [evOp] at hok
    cases hf : fld C s f with
    | none => rw [hf] at hok; cases hok
    | some q =>
      obtain ⟨off, t⟩ := q
      rw [hf] at hok
      cases hp : rd x <;> (try (rw [hp] at hok; cases hok; done))
      case agg cs =>
        rw [hp] at hx hok
        obtain ⟨z, hz, rz⟩ := sound_field hf hx hok
        simp only [execOp]
        rw [Sem.run_bind, hz]
        exact ⟨g, post_same inv (by simp only [evOp, hf, hp]; exact rb) (by simp only [evOp, hf, hp]; exact rz)⟩
  case indexAddr t x i =>
    have hx := hrd x (by simp [Op.operands])
    have hi := hrd i (by simp [Op.operands])
    simp only [evOp] at hok
    obtain ⟨z, hz, rz⟩ := sound_indexAddr hE hx hi hok
    simp only [execOp]
    rw [Sem.run_bind, hz]
    exact ⟨g, post_same inv rb rz⟩
  case index t x i =>
    have hx := hrd x (by simp [Op.operands])
    have hi := hrd i (by simp [Op.operands])
    simp only [evOp] at hok
    obtain ⟨z, hz, rz⟩ := sound_index hx hi hok
    simp only [execOp]
    rw [Sem.run_bind, hz]
    exact ⟨g, post_same inv rb rz⟩
  case extract x i =>
    have hx := hrd x (by simp [Op.operands])
    cases hp : rd x <;> (try (simp only [evOp, hp] at hok; cases hok; done))
    case tup vs =>
      rw [hp] at hx
      simp only [evOp, hp] at hok
      cases hv : vs[i]? with
      | none => rw [hv] at hok; cases hok
      | some y =>
        obtain ⟨xs, hxs, rl⟩ := hx.tup_inv
        obtain ⟨z, hz, rz⟩ := rl.2 i y hv
        simp only [execOp, hxs]
        have : (Instr.extract (.tuple xs) i).run C.P w = .ok z w := by
          simp only [Instr.extract]
          rw [← Array.getElem?_toList, hz]
          rfl
        rw [Sem.run_bind, this]
        exact ⟨g, post_same inv (by simp only [evOp, hp]; exact rb) (by simp only [evOp, hp, hv]; exact rz)⟩
  case makeFunc fn first captured =>
    cases fn <;> (try (simp only [evOp] at hok; cases hok; done))
    rename_i f
    cases hf : first.toList with
    | cons a r => simp only [evOp, hf] at hok; cases hok
    | nil =>
      have hfe : first = #[] := Array.toList_inj.1 (by simpa using hf)
      subst hfe
      simp only [execOp, Instr.makeFunc]
      have hl := relL_map (g := g) (w := w) (rd := rd) (ev := ev) captured.toList (fun x hx => hrd x (by simp [Op.operands]; simpa using hx))
      refine ⟨g, post_same inv (by simp only [evOp, hf]; exact rb) ?_⟩
      simp only [evOp, hf]
      have e : (Array.map ev #[] : Array Value) = #[] := by simp
      rw [e]
      have ht := relV_tup_of hl
      cases ht with
      | tup _ _ hl' hr' =>
        have ec : (captured.toList.map ev).toArray = captured.map ev := by apply Array.toList_inj.1; simp
        rw [ec] at hl' hr'
        exact .func _ _ _ hl' hr'
  case call c =>
    obtain ⟨callee, args, argTypes⟩ := c
    have hargs : ∀ x ∈ args.toList, RelV g w (rd x) (ev x) := fun x hx => hrd x (by simp [Op.operands, Call.operands]; exact .inr (by simpa using hx))
    cases callee with
    | invoke r m => simp only [evOp] at hok; cases hok
    | builtin b =>
      cases hal : args.toList with
      | nil => cases b <;> (simp only [evOp, hal] at hok; cases hok)
      | cons x r =>
        have hae : args = (x :: r).toArray := by apply Array.toList_inj.1; simp [hal]
        have hx := hargs x (by simp [hal])
        have hr : ∀ y ∈ r, RelV g w (rd y) (ev y) := fun y hy => hargs y (by simp [hal, hy])
        cases hat : argTypes.toList with
        | nil =>
          cases b <;> (try (cases r <;> simp only [evOp, hal, hat] at hok <;> cases hok; done))
          case max =>
            simp only [evOp, hal, hat] at hok
            obtain ⟨z, hz, rz⟩ := sound_fold evMax2 Builtin.max2 (fun p q u v h1 h2 h3 => sound_max2 h1 h2 h3) (r.map rd) (r.map ev) _ _ hx (relL_map r hr) hok
            simp only [execOp, resolve, invoke, builtin, Sem.run_bind, Sem.run_pure, Result.andThen_ok, Builtin.max_, hae]
            simp only [List.map_toArray, List.map_cons]
            rw [hz]
            exact ⟨g, post_same inv (by simp only [evOp, hat]; exact rb) (by simp only [evOp, hat]; exact rz)⟩
          case min =>
            simp only [evOp, hal, hat] at hok
            obtain ⟨z, hz, rz⟩ := sound_fold evMin2 Builtin.min2 (fun p q u v h1 h2 h3 => sound_min2 h1 h2 h3) (r.map rd) (r.map ev) _ _ hx (relL_map r hr) hok
            simp only [execOp, resolve, invoke, builtin, Sem.run_bind, Sem.run_pure, Result.andThen_ok, Builtin.min_, hae]
            simp only [List.map_toArray, List.map_cons]
            rw [hz]
            exact ⟨g, post_same inv (by simp only [evOp, hat]; exact rb) (by simp only [evOp, hat]; exact rz)⟩
        | cons t ts =>
          have hte : argTypes = (t :: ts).toArray := by apply Array.toList_inj.1; simp [hat]
          cases b <;> (try (cases r <;> simp only [evOp, hal, hat] at hok <;> cases hok; done))
          case max =>
            simp only [evOp, hal, hat] at hok
            obtain ⟨z, hz, rz⟩ := sound_fold evMax2 Builtin.max2 (fun p q u v h1 h2 h3 => sound_max2 h1 h2 h3) (r.map rd) (r.map ev) _ _ hx (relL_map r hr) hok
            simp only [execOp, resolve, invoke, builtin, Sem.run_bind, Sem.run_pure, Result.andThen_ok, Builtin.max_, hae]
            simp only [List.map_toArray, List.map_cons]
            rw [hz]
            exact ⟨g, post_same inv (by simp only [evOp, hat]; exact rb) (by simp only [evOp, hat]; exact rz)⟩
          case min =>
            simp only [evOp, hal, hat] at hok
            obtain ⟨z, hz, rz⟩ := sound_fold evMin2 Builtin.min2 (fun p q u v h1 h2 h3 => sound_min2 h1 h2 h3) (r.map rd) (r.map ev) _ _ hx (relL_map r hr) hok
            simp only [execOp, resolve, invoke, builtin, Sem.run_bind, Sem.run_pure, Result.andThen_ok, Builtin.min_, hae]
            simp only [List.map_toArray, List.map_cons]
            rw [hz]
            exact ⟨g, post_same inv (by simp only [evOp, hat]; exact rb) (by simp only [evOp, hat]; exact rz)⟩
          case len =>
            cases r with
            | cons y r' => simp only [evOp, hal, hat] at hok; cases hok
            | nil =>
              cases ts with
              | cons t' ts' => simp only [evOp, hal, hat] at hok; cases hok
              | nil =>
                simp only [evOp, hal, hat] at hok
                obtain ⟨z, hz, rz⟩ := sound_len hx hok ty
                simp only [execOp, resolve, invoke, builtin, Sem.run_bind, Sem.run_pure, Result.andThen_ok, hae, hte]
                simp only [List.map_toArray, List.map_cons, List.map_nil, hz, Result.andThen_ok]
                exact ⟨g, post_same inv rb rz⟩
          case append =>
            cases r with
            | nil => simp only [evOp, hal, hat] at hok; cases hok
            | cons y r' =>
              cases r' with
              | cons y' r' => simp only [evOp, hal, hat] at hok; cases hok
              | nil =>
                cases ts with
                | nil => simp only [evOp, hal, hat] at hok; cases hok
                | cons t' ts' =>
                  cases ts' with
                  | cons _ _ => simp only [evOp, hal, hat] at hok; cases hok
                  | nil =>
                    simp only [evOp, hal, hat] at hok
                    cases hb : Nat.beq t t' with
                    | false => rw [hb] at hok; cases hok
                    | true =>
                      rw [hb] at hok
                      simp only at hok
                      obtain rfl := Nat.eq_of_beq_eq_true hb
                      obtain ⟨z, g', w', hz, ha, rz⟩ := sound_append (ty := ty) hE inv hx (hr y (by simp)) hok
                      simp only [execOp, resolve, invoke, builtin, Sem.run_bind, Sem.run_pure, Result.andThen_ok, hae, hte]
                      simp only [List.map_toArray, List.map_cons, List.map_nil, hz, Result.andThen_ok]
                      exact ⟨g', post_app inv (by simp only [evOp, hb]; exact rb) ha (by simp only [evOp, hb]; exact rz)⟩
    | value f =>
      have hf := hrd f (by simp [Op.operands, Call.operands])
      cases hp : rd f <;> (try (simp only [evOp, hp] at hok; cases hok; done))
      rename_i gf cap
      rw [hp] at hf
      cases hev : ev f with
      | func fn first vs =>
        rw [hev] at hf
        have hfr := hf
        cases hf with
        | func _ _ _ hl hr =>
          simp only [evOp, hp] at hok
          have hra : RelL g w (args.toList.map rd ++ cap) ((args.map ev ++ vs).toList) := by
            have h1 := relL_map args.toList hargs
            have h2 : RelL g w cap vs.toList := by
              refine ⟨by simpa using hl, fun j pv hj => ?_⟩
              have hlt : j < cap.length := (List.getElem?_eq_some_iff.1 hj).1
              refine ⟨vs.getD j Go.undef, ?_, hr j pv hj⟩
              simp
              rw [Array.getElem?_eq_getElem (by omega)]
              simp [Array.getD, show j < vs.size by omega]
            have := relL_append h1 h2
            simpa using this
          obtain ⟨hc, hcalls⟩ := sound_call hG inv rb hfree hra hok
          obtain ⟨fd, hfd, hbody, hname⟩ := hc
          have hrun : (execOp ev ⟨dst, .call ⟨.value f, args, argTypes⟩, ty, pos, after, guard⟩).run C.P w = .ok (.enter gf (args.map ev ++ vs)) w := by
            simp only [execOp, resolve, hev, Deferred.ofValue, Sem.run_bind, Sem.run_pure, Result.andThen_ok, invoke, callFunc, run_program, hfd]
            have hb2 : fd.body.isNone = false := by cases hq : fd.body <;> simp_all
            simp [hname, hb2]
          rw [hrun]
          have hE' : evOp C rd lim new bx dirty ⟨dst, .call ⟨.value f, args, argTypes⟩, ty, pos, after, guard⟩ = callEff C gf (args.toList.map rd ++ cap) (C.mode gf) lim new bx dirty := by simp only [evOp, hp]
          rw [hE']
          exact hcalls.mono fun e w' ⟨rv, g', he, hpost⟩ => ⟨rv, he, g', hpost⟩
      | _ => rw [hev] at hf; cases hf

end Go.Im

namespace Go.Im
variable {C : Cfg}

/-! ### what is not marked has not turned -/
def Kept (d : List (Nat × Nat)) (bx bx' : Boxes) : Prop :=
  ∀ (b : Nat) (c0 c1 : List PVal), bx b = some c0 → bx' b = some c1 → c0.length = c1.length → ∀ k : Nat, memP b k d = false → c1[k]? = c0[k]?
theorem Kept.refl (d : List (Nat × Nat)) (bx : Boxes) : Kept d bx bx := fun b c0 c1 h h' _ k _ => by rw [h] at h'; cases h'; rfl

theorem memP_append (b k : Nat) : ∀ (l r : List (Nat × Nat)), memP b k (l ++ r) = (memP b k l || memP b k r)
  | [], r => by simp [memP]
  | (y, j) :: l, r => by
    simp only [List.cons_append, memP]
    cases Nat.beq b y <;> cases Nat.beq k j <;> simp [memP_append b k l r]
theorem memP_iff (b k : Nat) : ∀ l : List (Nat × Nat), memP b k l = true ↔ (b, k) ∈ l
  | [] => by simp [memP]
  | (y, j) :: l => by
    unfold memP
    cases h1 : Nat.beq b y with
    | false =>
      have : b ≠ y := fun e => by rw [e] at h1; simp at h1
      simp [memP_iff b k l, this]
    | true =>
      obtain rfl := Nat.eq_of_beq_eq_true h1
      cases h2 : Nat.beq k j with
      | false =>
        have : k ≠ j := fun e => by rw [e] at h2; simp at h2
        simp [memP_iff b k l, this]
      | true => obtain rfl := Nat.eq_of_beq_eq_true h2; simp

theorem dirtyAll_mem (b : Nat) : ∀ (n : Nat) (d : List (Nat × Nat)) (x : Nat × Nat), x ∈ dirtyAll b n d ↔ (x.1 = b ∧ x.2 < n) ∨ x ∈ d
  | 0, d, x => by simp [dirtyAll]
  | n + 1, d, x => by
    simp only [dirtyAll, dirtyAll_mem b n, List.mem_cons]
    constructor
    · rintro (⟨h1, h2⟩ | h | h)
      · exact .inl ⟨h1, by omega⟩
      · subst h; exact .inl ⟨rfl, by simp⟩
      · exact .inr h
    · rintro (⟨h1, h2⟩ | h)
      · by_cases e : x.2 = n
        · exact .inr (.inl (by rw [← h1, ← e]))
        · exact .inl ⟨h1, by omega⟩
      · exact .inr (.inr h)
theorem dirtyBoxes_mem : ∀ (ids : List Nat) (bs : List (List PVal)) (d : List (Nat × Nat)) (x : Nat × Nat), (x ∈ d → x ∈ dirtyBoxes ids bs d) ∧
    ∀ (k : Nat) (c : List PVal), ids[k]? = some x.1 → bs[k]? = some c → x.2 < c.length → x ∈ dirtyBoxes ids bs d
  | [], bs, d, x => ⟨fun h => by simpa [dirtyBoxes] using h, fun k c h => by simp at h⟩
  | b :: r, [], d, x => ⟨fun h => by simpa [dirtyBoxes] using h, fun k c h h' => by simp at h'⟩
  | b :: r, c :: l, d, x => by
    have ih := dirtyBoxes_mem r l (dirtyAll b c.length d) x
    simp only [dirtyBoxes]
    refine ⟨fun h => ih.1 ((dirtyAll_mem b _ d x).2 (.inr h)), fun k e hk he hlt => ?_⟩
    cases k with
    | zero =>
      simp at hk he
      subst he
      exact ih.1 ((dirtyAll_mem b _ d x).2 (.inl ⟨hk.symm, hlt⟩))
    | succ k => exact ih.2 k e (by simpa using hk) (by simpa using he) hlt

theorem splice_get : ∀ (cs : List PVal) (off : Nat) (vs : List PVal) (k : Nat), (k < off ∨ off + vs.length ≤ k) → off + vs.length ≤ cs.length → (splice cs off vs)[k]? = cs[k]? := by
  intro cs off vs k h hl
  rw [splice_eq cs off vs (by omega)]
  rcases h with h | h
  · rw [List.append_assoc, List.getElem?_append_left (by simp; omega), List.getElem?_take, if_pos h]
  · rw [List.getElem?_append_right (by simp; omega), List.getElem?_drop]
    congr 1
    simp; omega

theorem evOp_kept {o : Oper} {rd : Operand → PVal} {lim new : Nat} {bx : Boxes} {dirty : List (Nat × Nat)} (hn : isNew o.op = false) (hfree : ∀ r, r < stride → bx (new + r) = none) (hok : (evOp C rd lim new bx dirty o).ok = true) :
    Kept (evOp C rd lim new bx dirty o).dirty bx (evOp C rd lim new bx dirty o).bx ∧ (∀ x ∈ dirty, x ∈ (evOp C rd lim new bx dirty o).dirty) := by
  obtain ⟨dst, op, ty, pos, after, guard⟩ := o
  have same : ∀ (E : Eff), E.bx = bx → E.dirty = dirty → Kept E.dirty bx E.bx ∧ (∀ x ∈ dirty, x ∈ E.dirty) := fun E h1 h2 => by rw [h1, h2]; exact ⟨.refl _ _, fun _ h => h⟩
  cases op <;> (try (simp only [evOp] at hok; cases hok; done)) <;> (try (cases hn; done)) <;> (try (exact same (evOp C rd lim new bx dirty ⟨dst, _, ty, pos, after, guard⟩) rfl rfl))
  case pick c a b =>
    simp only [evOp]
    cases rd c <;> exact same _ rfl rfl
  case load t a =>
    simp only [evOp] at hok ⊢
    cases hp : rd a <;> (try exact same _ rfl rfl)
    rename_i b off
    rw [hp] at hok
    simp only at hok ⊢
    cases hlt : Nat.blt b lim <;> (try exact same _ rfl rfl)
    cases hb : bx b <;> exact same _ rfl rfl
  case store t a x =>
    simp only [evOp] at hok ⊢
    cases hp : rd a <;> (rw [hp] at hok) <;> (try (cases hok; done))
    rename_i b off
    simp only at hok ⊢
    cases hlt : Nat.blt b lim <;> (rw [hlt] at hok) <;> (try (cases hok; done))
    simp only at hok ⊢
    cases hb : bx b with
    | none => rw [hb] at hok; cases hok
    | some cs =>
      rw [hb] at hok
      simp only at hok ⊢
      cases h1 : Nat.beq (rd x).cells.length (C.P.cellsOf t) <;> (try (rw [h1] at hok; cases hok; done))
      cases h2 : allOne (rd x).cells <;> (try (rw [h1, h2] at hok; cases hok; done))
      cases h3 : (C.P.info? t).isSome <;> (try (rw [h1, h2, h3] at hok; cases hok; done))
      rw [h1, h2, h3] at hok
      simp only at hok
      have hle : off + (rd x).cells.length ≤ cs.length := Nat.le_of_ble_eq_true hok
      refine ⟨fun b' c0 c1 h h' hl k hk => ?_, fun y hy => List.mem_append.2 (.inr hy)⟩
      try simp only at h'
      by_cases e : b' = b
      · subst e
        rw [upd_same] at h'; cases h'
        rw [hb] at h; cases h
        refine splice_get cs off _ k ?_ hle
        rw [memP_append] at hk
        have hk1 := (Bool.or_eq_false_iff.1 hk).1
        rcases Nat.lt_or_ge k off with h5 | h5
        · exact .inl h5
        · refine .inr (Nat.le_of_not_lt fun h6 => ?_)
          have : memP b' k ((List.range (rd x).cells.length).map fun k => (b', off + k)) = true := by
            rw [memP_iff]
            exact List.mem_map.2 ⟨k - off, by simp; omega, by simp; omega⟩
          rw [this] at hk1; cases hk1
      · rw [upd_other _ _ _ _ e, h] at h'; cases h'; rfl
  case nilCheck x =>
    simp only [evOp]
    cases rd x <;> exact same _ rfl rfl
  case fieldAddr s x f =>
    simp only [evOp]
    cases fld C s f with
    | none => exact same _ rfl rfl
    | some q => cases rd x <;> exact same _ rfl rfl
  case field s x f =>
    simp only [evOp]
    cases fld C s f with
    | none => exact same _ rfl rfl
    | some q => cases rd x <;> exact same _ rfl rfl
  case extract x i =>
    simp only [evOp]
    cases rd x <;> exact same _ rfl rfl
  case makeFunc fn first cap =>
    refine same (evOp C rd lim new bx dirty ⟨dst, .makeFunc fn first cap, ty, pos, after, guard⟩) ?_ ?_
    · cases fn <;> cases hf : first.toList <;> simp only [evOp, hf]
    · cases fn <;> cases hf : first.toList <;> simp only [evOp, hf]
  case call c =>
    obtain ⟨callee, args, argTypes⟩ := c
    cases callee with
    | invoke r m => simp only [evOp] at hok; cases hok
    | builtin bb =>
      refine same (evOp C rd lim new bx dirty ⟨dst, .call ⟨.builtin bb, args, argTypes⟩, ty, pos, after, guard⟩) ?_ ?_
      · simp only [evOp]
        split <;> (try rfl)
        · split <;> rfl
        · rename_i he; cases he
      · simp only [evOp]
        split <;> (try rfl)
        · split <;> rfl
        · rename_i he; cases he
    | value f =>
      simp only [evOp] at hok ⊢
      cases hf : rd f <;> (rw [hf] at hok) <;> (try (cases hok; done))
      rename_i gf cap
      simp only at hok ⊢
      generalize hA : args.toList.map rd ++ cap = A at hok ⊢
      unfold callEff at hok ⊢
      simp only at hok ⊢
      generalize hids : dedup (A.flatMap ptrs) [] = ids at hok ⊢
      have hnd : ids.Nodup := by rw [← hids]; exact dedup_nodup _ _ List.nodup_nil
      cases hlim : ids.all (Nat.blt · lim) with
      | false => exact same _ rfl rfl
      | true =>
      simp only [hlim] at hok ⊢
      cases hbs : boxesAt bx ids with
      | none => exact same _ rfl rfl
      | some bs =>
        simp only [hbs] at hok ⊢
        obtain ⟨hbl, hbg⟩ := boxesAt_get bx ids bs hbs
        split <;> (try exact same _ rfl rfl)
        rename_i ok v bs' hS
        rw [hS] at hok
        simp only at hok ⊢
        split at hok
        · split <;> exact same _ rfl rfl
        · exact same _ rfl rfl
        have hle : ids.length ≤ bs'.length ∧ bs'.length ≤ ids.length + stride ∧ True := by
          split at hok <;> (try (cases hok; done))
          rename_i q1 q2
          exact ⟨Nat.le_of_ble_eq_true q1, Nat.le_of_ble_eq_true q2, trivial⟩
        obtain ⟨hm, hst, _⟩ := hle
        generalize hback : (fun k => match ids[k]? with | some b => some b | none => some (new + (k - ids.length)) : Nat → Option Nat) = back
        refine ⟨fun b c0 c1 h h' hl k hk => ?_, fun y hy => (dirtyBoxes_mem ids bs' dirty y).1 hy⟩
        try simp only at h'
        have hout : ¬ (new ≤ b ∧ b < new + stride) := fun hq => by
          have := hfree (b - new) (by omega)
          rw [Nat.add_sub_cancel' hq.1, h] at this; cases this
        have hg := (newBoxes_get back (bs'.drop ids.length) (putBoxes back bx ids (bs'.take ids.length)) new b).2 (by simp; omega)
        rw [hg] at h'
        have hp := putBoxes_get back ids (bs'.take ids.length) bx b hnd (by simp; omega)
        by_cases hmem : b ∈ ids
        · obtain ⟨j, hj⟩ := List.mem_iff_getElem?.1 hmem
          obtain ⟨c, hc, hput⟩ := hp.1 j hj
          rw [hput] at h'; cases h'
          have hjl : j < ids.length := (List.getElem?_eq_some_iff.1 hj).1
          rw [List.getElem?_take, if_pos hjl] at hc
          have hge : c.length ≤ k := Nat.le_of_not_lt fun hlt => by
            have := (dirtyBoxes_mem ids bs' dirty (b, k)).2 j c hj hc hlt
            rw [(memP_iff b k _).2 this] at hk; cases hk
          simp only [List.length_map] at hl
          rw [List.getElem?_eq_none (by simpa using hge), List.getElem?_eq_none (by omega)]
        · rw [hp.2 hmem, h] at h'; cases h'; rfl
end Go.Im
