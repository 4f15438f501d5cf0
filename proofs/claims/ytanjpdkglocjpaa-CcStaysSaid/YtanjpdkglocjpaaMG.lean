/-
  The bbr seat: how it is read, and its smallest functions.
-/
import Derived.Test.YtanjpdkglocjpaaME
import Derived.Test.YtanjpdkglocjpaaChecked
import Derived.Laws.MathBits

namespace Go.Proofs
open Go Go.Im

def bbElem : Nat → Option U := fun t => match Nat.beq t 3, Nat.beq t 75, Nat.beq t 35 with | true, _, _ => some .i64 | _, true, _ => some .entry | _, _, true => some .sample | _, _, _ => none
def bbMode : Nat → Nat := fun f => match memN f [50, 51, 52, 56] with | true => 1 | false => (match memN f [34, 36, 37, 39, 40, 41, 42, 43, 44, 45, 46, 48, 57, 59, 85] with | true => 2 | false => 0)
theorem bbMode_le (f : Nat) : bbMode f ≤ 2 := by unfold bbMode; split <;> (try split) <;> omega

noncomputable def bbC (l : List (Nat × FSpec)) (L : Nat → Option LSpec) : Cfg := { P := Try.prog, E := bbElem, G := lookG l, L := L, mode := bbMode }

def eokAt (P : Program) (agg : Nat → Option Bool) (e : Nat) (u : U) : Bool :=
  match P.info? e with
  | some i => match i.zero with
    | some z => Nat.beq i.size u.size && Nat.blt 0 i.bytes && Nat.ble i.bytes 4096 && (match agg e, u.isAgg with | some true, true => true | some false, false => true | _, _ => false) && Nat.beq z.cells.size u.size
    | none => false
  | none => false
theorem eokAt_spec {C : Cfg} {e : Nat} {u : U} (h : eokAt C.P (aggT C) e u = true) : ∃ i z, C.P.info? e = some i ∧ i.size = u.size ∧ 0 < i.bytes ∧ i.bytes ≤ 4096 ∧ aggT C e = some u.isAgg ∧ i.zero = some z ∧ z.cells.size = u.size := by
  unfold eokAt at h
  split at h <;> (try (cases h; done))
  rename_i i hi
  split at h <;> (try (cases h; done))
  rename_i z hz
  simp only [Bool.and_eq_true] at h
  obtain ⟨⟨⟨⟨h1, h2⟩, h3⟩, h4⟩, h5⟩ := h
  refine ⟨i, z, hi, Nat.eq_of_beq_eq_true h1, Nat.le_of_ble_eq_true h2, Nat.le_of_ble_eq_true h3, ?_, hz, Nat.eq_of_beq_eq_true h5⟩
  split at h4 <;> simp_all

theorem bb_at3 : eokAt Try.prog (aggT (bbC [] fun _ => none)) 3 .i64 = true := by kernel_rfl
theorem bb_at75 : eokAt Try.prog (aggT (bbC [] fun _ => none)) 75 .entry = true := by kernel_rfl
theorem bb_at35 : eokAt Try.prog (aggT (bbC [] fun _ => none)) 35 .sample = true := by kernel_rfl
theorem bbEOk (l : List (Nat × FSpec)) (L : Nat → Option LSpec) : EOk (bbC l L) where
  at_ := fun e u h => by
    simp only [bbC, bbElem] at h
    split at h <;> (try (cases h; done))
    · rename_i h1; obtain rfl := Nat.eq_of_beq_eq_true h1; cases h; exact eokAt_spec bb_at3
    · rename_i h1 _; obtain rfl := Nat.eq_of_beq_eq_true h1; cases h; exact eokAt_spec bb_at75
    · rename_i h1 _ _; obtain rfl := Nat.eq_of_beq_eq_true h1; cases h; exact eokAt_spec bb_at35
theorem bb_mixed : Try.prog.follows .mixedOrders = true := by kernel_rfl

/-- what is known of a function -/
abbrev Has (f : Nat) (S : FSpec) : Prop := FOk Try.prog bbMode f S
theorem bbGOk {l : List (Nat × FSpec)} (L : Nat → Option LSpec) (h : ∀ p ∈ l, Has p.1 p.2) : GOk (bbC l L) := gok_of rfl bbMode_le h

theorem has_of {l : List (Nat × FSpec)} {L : Nat → Option LSpec} (hl : ∀ p ∈ l, Has p.1 p.2) {f : Nat} {fn : Func} {c : Code} (hf : Try.prog.funcs[f]? = some fn) (hb : fn.body = some c) (hnm : (fn.name == "runtime.NumGoroutine") = false) (hL : LOk (bbC l L) c) {S : FSpec}
    (h : ∀ args bxs v bxs', S args bxs = some (true, v, bxs') → args.length ≤ fn.ntmps ∧ ∃ r, runF (bbC l L) fn args bxs = r ∧ r.ok = true ∧ LeV v r.val ∧ LeB bxs' r.bxs)
    (hro : bbMode f = 1 → ∀ args bxs ok v bxs', S args bxs = some (ok, v, bxs') → bxs' = bxs) : Has f S :=
  ⟨callable_of hf (by rw [hb]; rfl) hnm, soundF_le (C := bbC l L) bb_mixed (bbEOk l L) (bbGOk L hl) hf hb hL h, hro⟩

theorem has_of2 {l : List (Nat × FSpec)} {L : Nat → Option LSpec} (hl : ∀ p ∈ l, Has p.1 p.2) {f : Nat} {fn : Func} {c : Code} (hf : Try.prog.funcs[f]? = some fn) (hb : fn.body = some c) (hnm : (fn.name == "runtime.NumGoroutine") = false) (hL : LOk (bbC l L) c) {S : FSpec}
    (h : ∀ args bxs v bxs', S args bxs = some (true, v, bxs') → ∃ args2 bxs2, LeL args2 args ∧ LeB bxs2 bxs ∧ args2.length ≤ fn.ntmps ∧ ∃ r, runF (bbC l L) fn args2 bxs2 = r ∧ r.ok = true ∧ LeV v r.val ∧ LeB bxs' r.bxs)
    (hro : bbMode f = 1 → ∀ args bxs ok v bxs', S args bxs = some (ok, v, bxs') → bxs' = bxs) : Has f S :=
  ⟨callable_of hf (by rw [hb]; rfl) hnm, soundF_le2 (C := bbC l L) bb_mixed (bbEOk l L) (bbGOk L hl) hf hb hL h, hro⟩

/-! ### beats, may, Best, Clamp -/
def beatsM (a b : Int) (m : Bool) : Bool := (m && decide (a ≥ b)) || (!m && decide (a ≤ b))
def S32 : FSpec := fun args bxs => match args, bxs with | [.int .i64 a, .int .i64 b, .bool m], [] => some (true, .bool (beatsM a b m), []) | _, _ => none
theorem run32 (a b : Int) (m : Bool) : runF (bbC [] fun _ => none) Try.f67 [.i64 a, .i64 b, .bool m] [] = ⟨true, .bool (beatsM a b m), []⟩ := by kernel_rfl
theorem has32 : Has 67 S32 := has_of (l := []) (L := fun _ => none) (by simp) Try.func67 rfl (by kernel_rfl) (lok_none (by kernel_rfl)) (fun args bxs v bxs' h => by
  unfold S32 at h
  split at h <;> cases h
  exact ⟨Nat.le_of_ble_eq_true (by kernel_rfl), _, run32 _ _ _, rfl, .refl _, leB_refl _⟩) (fun h => by cases h)

def mayM (e : Entry) : Bool := ((decide (e.At ≥ 0) && decide (e.At ≤ 1125899906842624)) && decide (e.V ≥ 0)) && decide (e.V ≤ 1152921504606846976)
def S31 : FSpec := fun args bxs => match args, bxs with | [.agg [.int .i64 a, .int .i64 v]], [] => some (true, .bool (mayM ⟨a, v⟩), []) | _, _ => none
theorem run31 (a v : Int) : runF (bbC [] fun _ => none) Try.f66 [.agg [.i64 a, .i64 v]] [] = ⟨true, .bool (mayM ⟨a, v⟩), []⟩ := by kernel_rfl
theorem has31 : Has 66 S31 := has_of (l := []) (L := fun _ => none) (by simp) Try.func66 rfl (by kernel_rfl) (lok_none (by kernel_rfl)) (fun args bxs v bxs' h => by
  unfold S31 at h
  split at h <;> cases h
  exact ⟨Nat.le_of_ble_eq_true (by kernel_rfl), _, run31 _ _, rfl, .refl _, leB_refl _⟩) (fun h => by cases h)

def clampM (x lo hi : Int) : Int := if (if hi < x then hi else x) > lo then (if hi < x then hi else x) else lo
def S27 : FSpec := fun args bxs => match args, bxs with | [.int .i64 x, .int .i64 lo, .int .i64 hi], [] => some (true, .i64 (clampM x lo hi), []) | _, _ => none
theorem run27 (x lo hi : Int) : runF (bbC [] fun _ => none) Try.f58 [.i64 x, .i64 lo, .i64 hi] [] = ⟨true, .i64 (clampM x lo hi), []⟩ := by kernel_rfl
theorem has27 : Has 58 S27 := has_of (l := []) (L := fun _ => none) (by simp) Try.func58 rfl (by kernel_rfl) (lok_none (by kernel_rfl)) (fun args bxs v bxs' h => by
  unfold S27 at h
  split at h <;> cases h
  exact ⟨Nat.le_of_ble_eq_true (by kernel_rfl), _, run27 _ _ _, rfl, .refl _, leB_refl _⟩) (fun h => by cases h)

end Go.Proofs

/-
  The bbr seat: within.
-/
namespace Go.Proofs
open Go Go.Im

def okV (a v : Int) : Bool := !(decide (v < 0) || decide (v > a))
abbrev T14 (a n i : Int) (x o : Bool) (l : List Int) : List (Nat × PVal) := [(0, .i64 a), (4, .bool x), (7, .slice .i64 o l), (8, .i64 n), (9, .i64 i)]
theorem round14 (L : Nat → Option LSpec) (a n i : Int) (x o ok : Bool) (l : List Int) (nb : Nat) (kn : St → Res) (kx : Nat → St → Res) (kr : St → Res) :
    exec (bbC [] L) (loopAt Try.f38 0) (fun s => kn (norm [0, 4, 7, 8, 9] [] nb s)) (fun i s => kx i (norm [4] [] nb s)) (fun s => kr (norm [4] [] nb s)) (headSt (T14 a n i x o l) [] nb 21 ok) =
    bif decide (i < n) then
      (bif (decide (l.getD i.toNat 0 < 0) || decide (l.getD i.toNat 0 > a)) then kr (headSt [(4, .bool false)] [] nb 21 (andB ok (decide (0 ≤ i) && decide (i < l.length))))
      else kn (headSt (T14 a n (IntKind.i64.wrap (i + 1)) x o l) [] nb 21 (andB ok (decide (0 ≤ i) && decide (i < l.length)))))
    else kx 0 (headSt [(4, .bool x)] [] nb 21 ok) := by kernel_rfl

def lenOk (n : Nat) : Bool := Nat.ble n 4294967296
def F14 : LSpec := fun st kx kr => match st.tm 0, st.tm 4, st.tm 7, st.tm 8, st.tm 9, Nat.beq st.n 21 with
  | .int .i64 a, .bool x, .slice .i64 o l, .int .i64 n, .int .i64 i, true =>
    (let c := decide (i = 0) && (decide (n = l.length) && lenOk l.length)
     bif l.all (okV a) then kx 0 (headSt [(4, .bool x)] [] st.nb 21 (andB st.ok c)) else kr (headSt [(4, .bool false)] [] st.nb 21 (andB st.ok c)))
  | _, _, _, _, _, _ => Res.bad
def L14 : Nat → Option LSpec := fun i => match Nat.beq i 2 with | true => some F14 | false => none

theorem wrap_i64 {n : Int} (h1 : -9223372036854775808 ≤ n) (h2 : n ≤ 9223372036854775807) : IntKind.i64.wrap n = n := by
  simp [IntKind.wrap, IntKind.bits, IntKind.signed]; omega

theorem loop14 (L : Nat → Option LSpec) (a : Int) (x o : Bool) (l : List Int) (nb : Nat) (kx : Nat → St → Res) (kr : St → Res) (hl : l.length ≤ 4294967296) :
    ∀ (t : List Int) (i : Nat) (n : Nat), i + t.length = l.length → l.drop i = t → t.length < n →
    loopN (bbC [] L) (loopAt Try.f38 0) [0, 4, 7, 8, 9] [] [4] [] nb n (headSt (T14 a l.length i x o l) [] nb 21 true) kx kr =
    bif t.all (okV a) then kx 0 (headSt [(4, .bool x)] [] nb 21 true) else kr (headSt [(4, .bool false)] [] nb 21 true)
  | [], i, n + 1, h1, h2, h3 => by
    refine Eq.trans (round14 L a l.length i x o true l nb (fun s => loopN (bbC [] L) (loopAt Try.f38 0) [0, 4, 7, 8, 9] [] [4] [] nb n s kx kr) kx kr) ?_
    have : decide ((i : Int) < l.length) = false := by simp at h1 ⊢; omega
    rw [this]; rfl
  | v :: t, i, n + 1, h1, h2, h3 => by
    refine Eq.trans (round14 L a l.length i x o true l nb (fun s => loopN (bbC [] L) (loopAt Try.f38 0) [0, 4, 7, 8, 9] [] [4] [] nb n s kx kr) kx kr) ?_
    simp only [List.length_cons] at h1 h3
    have hv : l.getD (i : Int).toNat 0 = v := by
      have := congrArg (fun l => l[0]?) h2
      simp only [List.getElem?_drop, Nat.add_zero, List.getElem?_cons_zero] at this
      simp [List.getD, this]
    have e1 : decide ((i : Int) < l.length) = true := by simp; omega
    have e2 : decide ((0 : Int) ≤ i) = true := by simp
    have hw : IntKind.i64.wrap ((i : Int) + 1) = ((i + 1 : Nat) : Int) := by rw [wrap_i64 (by omega) (by omega)]; simp
    rw [hv, e1, e2, hw]
    have ih := loop14 L a x o l nb kx kr hl t (i + 1) n (by omega) (by rw [← List.drop_drop, h2]; simp) (by omega)
    simp only [cond_true, Bool.and_self, andB, ih, List.all_cons, okV]
    cases (decide (v < 0) || decide (v > a)) <;> rfl

theorem law14 (L : Nat → Option LSpec) : SoundL (bbC [] L) (loopAt Try.f38 0) F14 := by
  refine soundL_of bb_mixed (bbEOk [] L) (bbGOk L (by simp)) [0, 4, 7, 8, 9] [] [4] [] (fun st => match st.tm 7 with | .slice _ _ l => l.length + 1 | _ => 0) (lok_none (by kernel_rfl)) fun st kx kr hx hr hok => ?_
  unfold F14 at hok ⊢
  split at hok
  · rename_i a x o l n i h0 h4 h7 h8 h9 hn
    simp only [h0, h4, h7, h8, h9, hn] at hok ⊢
    have hc : st.ok = true ∧ (decide (i = 0) && (decide (n = l.length) && lenOk l.length)) = true := by
      cases hb : l.all (okV a) <;> simp only [hb, cond_true, cond_false] at hok
      · exact andB_true (hr _ hok)
      · exact andB_true (hx _ _ hok)
    obtain ⟨hok1, hc⟩ := hc
    simp only [Bool.and_eq_true, decide_eq_true_eq] at hc
    obtain ⟨rfl, rfl, hlen⟩ := hc
    have hl : l.length ≤ 4294967296 := Nat.le_of_ble_eq_true hlen
    have e : norm [0, 4, 7, 8, 9] [] st.nb st = headSt (T14 a l.length (0 : Nat) x o l) [] st.nb 21 true := by
      have := Nat.eq_of_beq_eq_true hn
      simp [norm, headSt, keepT, keepB, h0, h4, h7, h8, h9, this, hok1, lowT, low, low0, lowB, andB]
    rw [e, loop14 L a x o l st.nb kx kr hl l 0 _ (by simp) (by simp) (Nat.lt_succ_self _)]
    simp [hok1, hlen, andB]
  · cases hok

theorem run14 (a : Int) (o : Bool) (l : List Int) : runF (bbC [] L14) Try.f38 [.i64 a, .slice .i64 o l] [] =
    bif l.all (okV a) then ⟨andB true (decide ((0 : Int) = 0) && (decide ((l.length : Int) = l.length) && lenOk l.length)), .bool true, []⟩ else ⟨andB true (decide ((0 : Int) = 0) && (decide ((l.length : Int) = l.length) && lenOk l.length)), .bool false, []⟩ := by kernel_rfl
def S14 : FSpec := fun args bxs => match args, bxs with | [.int .i64 a, .slice .i64 _ l], [] => some (lenOk l.length, .bool (l.all (okV a)), []) | _, _ => none
theorem has14 : Has 38 S14 := has_of (l := []) (L := L14) (by simp) Try.func38 rfl (by kernel_rfl) (lok_one (b := loopAt Try.f38 0) (f := F14) (by kernel_rfl) (by kernel_rfl) (law14 L14)) (fun args bxs v bxs' h => by
  unfold S14 at h
  split at h <;> simp only [Option.some.injEq, Prod.mk.injEq, reduceCtorEq] at h
  obtain ⟨h1, rfl, rfl⟩ := h
  rename_i a o l
  refine ⟨Nat.le_of_ble_eq_true (by kernel_rfl), _, run14 a o l, ?_⟩
  cases hb : l.all (okV a) <;> simp [andB, h1] <;> exact ⟨.refl _, leB_refl _⟩) (fun h => by cases h)

end Go.Proofs

/-
  The bbr seat: filter.Check.
-/
namespace Go.Proofs
open Go Go.Im

abbrev G30 : List (Nat × FSpec) := [(66, S31), (67, S32)]
theorem g30 : ∀ p ∈ G30, Has p.1 p.2 := by
  intro p hp
  simp only [G30, List.mem_cons, List.not_mem_nil, or_false] at hp
  rcases hp with rfl | rfl
  · exact has31
  · exact has32
def eZ : Entry := ⟨0, 0⟩
abbrev T30 (m o : Bool) (l : List Entry) (n i : Int) : List (Nat × PVal) := [(0, .slice .entry o l), (1, .bool m), (7, .slice .entry o l), (8, .i64 n), (9, .i64 i)]
def bad30 (m : Bool) (l : List Entry) (i : Int) : Bool :=
  bif !mayM (l.getD i.toNat eZ) then true else (bif decide (i > 0) then (bif decide ((l.getD (IntKind.i64.wrap (i - 1)).toNat eZ).At ≥ (l.getD i.toNat eZ).At) then true else beatsM (l.getD i.toNat eZ).V (l.getD (IntKind.i64.wrap (i - 1)).toNat eZ).V m) else false)
def x30 (l : List Entry) (i : Int) : Bool := match !(!mayM (l.getD i.toNat eZ)) with | true => decide (i > 0) | false => false
def y30 (l : List Entry) (i : Int) : Bool := match x30 l i with | true => !decide ((l.getD (IntKind.i64.wrap (i - 1)).toNat eZ).At ≥ (l.getD i.toNat eZ).At) | false => false
def c30 (l : List Entry) (j : Int) : Bool := decide (0 ≤ j) && decide (j < l.length)
def k30 (l : List Entry) (i : Int) (ok : Bool) : Bool := andB (andB (andB ok (c30 l i)) (impB (x30 l i) (c30 l (IntKind.i64.wrap (i - 1))))) (impB (y30 l i) (c30 l (IntKind.i64.wrap (i - 1))))
theorem round30 (L : Nat → Option LSpec) (m o ok : Bool) (l : List Entry) (n i : Int) (kn : St → Res) (kx : Nat → St → Res) (kr : St → Res) :
    exec (bbC G30 L) (loopAt Try.f63 0) (fun s => kn (norm [0, 1, 7, 8, 9] [] 64 s)) (fun i s => kx i (norm [4] [] 64 s)) (fun s => kr (norm [4] [] 64 s)) (headSt (T30 m o l n i) [] 64 45 ok) =
    bif decide (i < n) then
      (bif bad30 m l i then kr (headSt [(4, .i64 2)] [] 64 45 (k30 l i ok))
      else kn (headSt (T30 m o l n (IntKind.i64.wrap (i + 1))) [] 64 45 (k30 l i ok)))
    else kx 0 (headSt [(4, .undef)] [] 64 45 ok) := by kernel_rfl

theorem impB_of {x c : Bool} (h : x = true → c = true) : impB x c = true := by cases c <;> cases x <;> simp_all [impB]
theorem k30_true {l : List Entry} {i : Nat} (hi : i < l.length) (hl : l.length ≤ 4294967296) : k30 l i true = true := by
  have h1 : c30 l i = true := by simp [c30]; omega
  have hx : x30 l i = true → c30 l (IntKind.i64.wrap ((i : Int) - 1)) = true := by
    intro h
    have hpos : (0 : Int) < i := by
      unfold x30 at h
      split at h
      · simpa using h
      · cases h
    rw [wrap_i64 (by omega) (by omega)]
    simp [c30]; omega
  have hy : y30 l i = true → c30 l (IntKind.i64.wrap ((i : Int) - 1)) = true := by
    intro h
    refine hx ?_
    unfold y30 at h
    split at h
    · assumption
    · cases h
  unfold k30
  rw [h1, impB_of hx, impB_of hy]
  rfl

def good30 (m : Bool) (l : List Entry) (i : Nat) : Bool := !bad30 m l i
def F30 : LSpec := fun st kx kr => match st.tm 0, st.tm 1, st.tm 7, st.tm 8, st.tm 9, Nat.beq st.n 45, Nat.beq st.nb 64 with
  | .slice .entry o l, .bool m, .slice .entry o2 l2, .int .i64 n, .int .i64 i, true, true =>
    (let c := decide (i = 0) && (decide (n = l.length) && (lenOk l.length && (decide (o2 = o) && decide (l2 = l))))
     bif (List.range' 0 l.length).all (good30 m l) then kx 0 (headSt [(4, .undef)] [] 64 45 (andB st.ok c)) else kr (headSt [(4, .i64 2)] [] 64 45 (andB st.ok c)))
  | _, _, _, _, _, _, _ => Res.bad

theorem loop30 (L : Nat → Option LSpec) (m o : Bool) (l : List Entry) (kx : Nat → St → Res) (kr : St → Res) (hl : l.length ≤ 4294967296) :
    ∀ (d : Nat) (i : Nat) (n : Nat), i + d = l.length → d < n →
    loopN (bbC G30 L) (loopAt Try.f63 0) [0, 1, 7, 8, 9] [] [4] [] 64 n (headSt (T30 m o l l.length i) [] 64 45 true) kx kr =
    bif (List.range' i d).all (good30 m l) then kx 0 (headSt [(4, .undef)] [] 64 45 true) else kr (headSt [(4, .i64 2)] [] 64 45 true)
  | 0, i, n + 1, h1, h3 => by
    refine Eq.trans (round30 L m o true l l.length i (fun s => loopN (bbC G30 L) (loopAt Try.f63 0) [0, 1, 7, 8, 9] [] [4] [] 64 n s kx kr) kx kr) ?_
    have : decide ((i : Int) < l.length) = false := by simp; omega
    rw [this]; rfl
  | d + 1, i, n + 1, h1, h3 => by
    refine Eq.trans (round30 L m o true l l.length i (fun s => loopN (bbC G30 L) (loopAt Try.f63 0) [0, 1, 7, 8, 9] [] [4] [] 64 n s kx kr) kx kr) ?_
    have e1 : decide ((i : Int) < l.length) = true := by simp; omega
    have hw : IntKind.i64.wrap ((i : Int) + 1) = ((i + 1 : Nat) : Int) := by rw [wrap_i64 (by omega) (by omega)]; simp
    rw [e1, hw, k30_true (by omega) hl]
    have ih := loop30 L m o l kx kr hl d (i + 1) n (by omega) (by omega)
    simp only [cond_true, ih, List.range'_succ, List.all_cons, good30]
    cases bad30 m l i <;> rfl

theorem law30 (L : Nat → Option LSpec) : SoundL (bbC G30 L) (loopAt Try.f63 0) F30 := by
  refine soundL_of bb_mixed (bbEOk G30 L) (bbGOk L g30) [0, 1, 7, 8, 9] [] [4] [] (fun st => match st.tm 7 with | .slice _ _ l => l.length + 1 | _ => 0) (lok_none (by kernel_rfl)) fun st kx kr hx hr hok => ?_
  unfold F30 at hok ⊢
  split at hok
  · rename_i o l m o2 l2 n i h0 h1 h7 h8 h9 hn hnb
    simp only [h0, h1, h7, h8, h9, hn, hnb] at hok ⊢
    have hc : st.ok = true ∧ (decide (i = 0) && (decide (n = l.length) && (lenOk l.length && (decide (o2 = o) && decide (l2 = l))))) = true := by
      cases hb : (List.range' 0 l.length).all (good30 m l) <;> simp only [hb, cond_true, cond_false] at hok
      · exact andB_true (hr _ hok)
      · exact andB_true (hx _ _ hok)
    obtain ⟨hok1, hc⟩ := hc
    simp only [Bool.and_eq_true, decide_eq_true_eq] at hc
    obtain ⟨rfl, rfl, hlen, rfl, rfl⟩ := hc
    have hl : l2.length ≤ 4294967296 := Nat.le_of_ble_eq_true hlen
    have e : norm [0, 1, 7, 8, 9] [] st.nb st = headSt (T30 m o2 l2 l2.length (0 : Nat)) [] 64 45 true := by
      have := Nat.eq_of_beq_eq_true hn
      have := Nat.eq_of_beq_eq_true hnb
      simp [norm, headSt, keepT, keepB, h0, h1, h7, h8, h9, *, lowT, low, low0, lowB, andB]
    rw [e, Nat.eq_of_beq_eq_true hnb, loop30 L m o2 l2 kx kr hl l2.length 0 _ (by simp) (Nat.lt_succ_self _)]
    simp [hok1, hlen, andB]
  · cases hok
def L30 : Nat → Option LSpec := fun i => match Nat.beq i 2 with | true => some F30 | false => none
def chk (m : Bool) (l : List Entry) : Bool := (List.range' 0 l.length).all (good30 m l)
theorem run30 (m o : Bool) (l : List Entry) : runF (bbC G30 L30) Try.f63 [.slice .entry o l, .bool m] [] =
    (let c := decide ((0 : Int) = 0) && (decide ((l.length : Int) = l.length) && (lenOk l.length && (decide (o = o) && decide (l = l))))
     bif chk m l then ⟨andB true c, .i64 0, []⟩ else ⟨andB true c, .i64 2, []⟩) := by kernel_rfl
def S30 : FSpec := fun args bxs => match args, bxs with | [.slice .entry _ l, .bool m], [] => some (lenOk l.length, .i64 (bif chk m l then 0 else 2), []) | _, _ => none
theorem has30 : Has 63 S30 := has_of (l := G30) (L := L30) g30 Try.func63 rfl (by kernel_rfl) (lok_one (b := loopAt Try.f63 0) (f := F30) (by kernel_rfl) (by kernel_rfl) (law30 L30)) (fun args bxs v bxs' h => by
  unfold S30 at h
  split at h <;> simp only [Option.some.injEq, Prod.mk.injEq, reduceCtorEq] at h
  obtain ⟨h1, rfl, rfl⟩ := h
  rename_i o l m
  refine ⟨Nat.le_of_ble_eq_true (by kernel_rfl), _, run30 m o l, ?_⟩
  cases hb : chk m l <;> simp [andB, h1] <;> exact ⟨.refl _, leB_refl _⟩) (fun h => by cases h)

end Go.Proofs

/-
  The bbr seat: math/bits.
-/
namespace Go.Proofs
open Go Go.Im

def tab8 : List UInt8 := [0, 1, 2, 2] ++ List.replicate 4 3 ++ List.replicate 8 4 ++ List.replicate 16 5 ++ List.replicate 32 6 ++ List.replicate 64 7 ++ List.replicate 128 8
def lenX1 (x : Int) : Int := bif decide (x ≥ 4294967296) then x.fdiv 4294967296 else x
def lenN1 (x : Int) : Int := bif decide (x ≥ 4294967296) then 32 else 0
def lenX2 (x : Int) : Int := bif decide (lenX1 x ≥ 65536) then (lenX1 x).fdiv 65536 else lenX1 x
def lenN2 (x : Int) : Int := bif decide (lenX1 x ≥ 65536) then IntKind.i64.wrap (lenN1 x + 16) else lenN1 x
def lenX3 (x : Int) : Int := bif decide (lenX2 x ≥ 256) then (lenX2 x).fdiv 256 else lenX2 x
def lenN3 (x : Int) : Int := bif decide (lenX2 x ≥ 256) then IntKind.i64.wrap (lenN2 x + 8) else lenN2 x
def lenI (x : Int) : Int := IntKind.u8.wrap (lenX3 x)
def lenM (x : Int) : Int := IntKind.i64.wrap (lenN3 x + IntKind.i64.wrap ((tab8.getD (lenI x).toNat 0).toNat : Int))
theorem run36 (x : Int) : runF (bbC [] fun _ => none) Try.f69 [.int .u64 x] [] = ⟨andB true (decide (0 ≤ lenI x) && decide (lenI x < (256 : Nat))), .i64 (lenM x), []⟩ := by kernel_rfl

theorem len_step (x : Int) (b : Nat) (m : Int) (hm : m = 2 ^ b) (h0 : 0 ≤ x) :
    bitLen x.toNat = (bif decide (x ≥ m) then b else 0) + bitLen (bif decide (x ≥ m) then x.fdiv m else x).toNat ∧ 0 ≤ (bif decide (x ≥ m) then x.fdiv m else x) := by
  obtain ⟨n, rfl⟩ := Int.eq_ofNat_of_zero_le h0
  have hmn : m = ((2 ^ b : Nat) : Int) := by rw [hm]; simp
  subst hmn
  have hp : 0 < 2 ^ b := Nat.two_pow_pos b
  by_cases h : ((n : Int) ≥ ((2 ^ b : Nat) : Int))
  · simp only [h, decide_true, cond_true]
    have hn : 2 ^ b ≤ n := by exact_mod_cast h
    have hf : ((n : Int).fdiv ((2 ^ b : Nat) : Int)) = ((n / 2 ^ b : Nat) : Int) := by rw [Int.fdiv_eq_ediv_of_nonneg _ (by omega)]; exact (Int.natCast_ediv n (2 ^ b)).symm
    rw [hf]
    refine ⟨?_, Int.natCast_nonneg _⟩
    simp only [Int.toNat_natCast]
    exact bitLen_shift n b (by have := Nat.div_pos hn hp; omega)
  · simp only [h, decide_false, cond_false]
    exact ⟨by simp, h0⟩

theorem fdiv_bound {x m : Int} (h : x < m * m) (h0 : 0 ≤ x) (hm : 0 < m) : (bif decide (x ≥ m) then x.fdiv m else x) < m := by
  by_cases hx : x ≥ m
  · simp only [hx, decide_true, cond_true]
    rw [Int.fdiv_eq_ediv_of_nonneg _ (by omega)]
    exact Int.ediv_lt_of_lt_mul hm h
  · simp only [hx, decide_false, cond_false]; omega

theorem tab8_get : ∀ j : Fin 256, (tab8.getD j.val 0).toNat = bitLen j.val := by decide +kernel

theorem lenM_spec {x : Int} (h0 : 0 ≤ x) (h : x < 18446744073709551616) : lenM x = bitLen x.toNat ∧ 0 ≤ lenI x ∧ lenI x < 256 := by
  have s1 := len_step x 32 4294967296 (by decide) h0
  have b1 : lenX1 x < 4294967296 := fdiv_bound (by omega) h0 (by omega)
  have s2 := len_step (lenX1 x) 16 65536 (by decide) s1.2
  have b2 : lenX2 x < 65536 := fdiv_bound (by omega) s1.2 (by omega)
  have s3 := len_step (lenX2 x) 8 256 (by decide) s2.2
  have b3 : lenX3 x < 256 := fdiv_bound (by omega) s2.2 (by omega)
  have p3 : 0 ≤ lenX3 x := s3.2
  have hI : lenI x = lenX3 x := by unfold lenI; simp [IntKind.wrap, IntKind.bits, IntKind.signed]; omega
  have ht : (tab8.getD (lenI x).toNat 0).toNat = bitLen (lenX3 x).toNat := by
    rw [hI]
    exact tab8_get ⟨(lenX3 x).toNat, by omega⟩
  refine ⟨?_, by omega, by omega⟩
  have q1 := s1.1
  have q2 := s2.1
  have q3 := s3.1
  have l3 : bitLen (lenX3 x).toNat ≤ 8 := bitLen_le8 _ (by omega)
  unfold lenM
  rw [ht, wrap_i64 (n := ((bitLen (lenX3 x).toNat : Nat) : Int)) (by omega) (by omega)]
  have w1 : lenN1 x = ((bif decide (x ≥ 4294967296) then 32 else 0 : Nat) : Int) := by unfold lenN1; cases decide (x ≥ 4294967296) <;> rfl
  have w2 : lenN2 x = lenN1 x + ((bif decide (lenX1 x ≥ 65536) then 16 else 0 : Nat) : Int) := by
    unfold lenN2
    cases decide (lenX1 x ≥ 65536)
    · simp
    · simp only [cond_true]; rw [wrap_i64]; rfl
      · rw [w1]; cases decide (x ≥ 4294967296) <;> simp
      · rw [w1]; cases decide (x ≥ 4294967296) <;> simp
  have w3 : lenN3 x = lenN2 x + ((bif decide (lenX2 x ≥ 256) then 8 else 0 : Nat) : Int) := by
    unfold lenN3
    cases decide (lenX2 x ≥ 256)
    · simp
    · simp only [cond_true]; rw [wrap_i64]; rfl
      · rw [w2, w1]; cases decide (x ≥ 4294967296) <;> cases decide (lenX1 x ≥ 65536) <;> simp
      · rw [w2, w1]; cases decide (x ≥ 4294967296) <;> cases decide (lenX1 x ≥ 65536) <;> simp
  rw [w3, w2, w1, q1]
  change bitLen (lenX1 x).toNat = _ at q2
  change bitLen (lenX2 x).toNat = _ at q3
  change _ = (((bif decide (x ≥ 4294967296) then 32 else 0) + bitLen (lenX1 x).toNat : Nat) : Int)
  rw [q2]
  change _ = (((bif decide (x ≥ 4294967296) then 32 else 0) + ((bif decide (lenX1 x ≥ 65536) then 16 else 0) + bitLen (lenX2 x).toNat) : Nat) : Int)
  rw [q3]
  change _ = (((bif decide (x ≥ 4294967296) then 32 else 0) + ((bif decide (lenX1 x ≥ 65536) then 16 else 0) + ((bif decide (lenX2 x ≥ 256) then 8 else 0) + bitLen (lenX3 x).toNat)) : Nat) : Int)
  rw [wrap_i64]
  · simp only [Int.natCast_add]; omega
  · cases decide (x ≥ 4294967296) <;> cases decide (lenX1 x ≥ 65536) <;> cases decide (lenX2 x ≥ 256) <;> simp <;> omega
  · cases decide (x ≥ 4294967296) <;> cases decide (lenX1 x ≥ 65536) <;> cases decide (lenX2 x ≥ 256) <;> simp <;> omega

def u64B : Int := 18446744073709551616
def isU (x : Int) : Bool := decide (0 ≤ x) && decide (x < 18446744073709551616)
def S36 : FSpec := fun args bxs => match args, bxs with | [.int .u64 x], [] => some (isU x, .i64 (bitLen x.toNat), []) | _, _ => none
theorem has36 : Has 69 S36 := has_of (l := []) (L := fun _ => none) (by simp) Try.func69 rfl (by kernel_rfl) (lok_none (by kernel_rfl)) (fun args bxs v bxs' h => by
  unfold S36 at h
  split at h <;> simp only [Option.some.injEq, Prod.mk.injEq, reduceCtorEq] at h
  obtain ⟨h1, rfl, rfl⟩ := h
  simp only [isU, Bool.and_eq_true, decide_eq_true_eq] at h1
  rename_i x
  obtain ⟨e1, e2, e3⟩ := lenM_spec h1.1 h1.2
  refine ⟨Nat.le_of_ble_eq_true (by kernel_rfl), _, run36 x, ?_, ?_, leB_refl _⟩
  · simp [andB, e2, e3]
  · rw [e1]; exact .refl _) (fun h => by cases h)

theorem run35 (x : Int) : runF (bbC [(69, S36)] fun _ => none) Try.f65 [.int .u64 x] [] = ⟨andB true (isU x), .i64 (IntKind.i64.wrap (64 - (bitLen x.toNat : Nat))), []⟩ := by kernel_rfl
def S35 : FSpec := fun args bxs => match args, bxs with | [.int .u64 x], [] => some (isU x, .i64 (IntKind.i64.wrap (64 - (bitLen x.toNat : Nat))), []) | _, _ => none
theorem has35 : Has 65 S35 := has_of (l := [(69, S36)]) (L := fun _ => none) (by simpa using has36) Try.func65 rfl (by kernel_rfl) (lok_none (by kernel_rfl)) (fun args bxs v bxs' h => by
  unfold S35 at h
  split at h <;> simp only [Option.some.injEq, Prod.mk.injEq, reduceCtorEq] at h
  obtain ⟨h1, rfl, rfl⟩ := h
  exact ⟨Nat.le_of_ble_eq_true (by kernel_rfl), _, run35 _, by rw [h1]; rfl, .refl _, leB_refl _⟩) (fun h => by cases h)

end Go.Proofs

/-
  The bbr seat: math/bits.Mul64.
-/
namespace Go.Proofs
open Go Go.Im

abbrev wU (x : Int) : Int := IntKind.u64.wrap x
def mLow (x : Int) : Int := bitsOp .u64 .and x 4294967295
def mHigh (x : Int) : Int := x.fdiv 4294967296
def mT (x y : Int) : Int := wU (wU (mHigh x * mLow y) + mHigh (wU (mLow x * mLow y)))
def mW1 (x y : Int) : Int := wU (mLow (mT x y) + wU (mLow x * mHigh y))
def mHi (x y : Int) : Int := wU (wU (wU (mHigh x * mHigh y) + mHigh (mT x y)) + mHigh (mW1 x y))
theorem run33 (x y : Int) : runF (bbC [] fun _ => none) Try.f53 [.int .u64 x, .int .u64 y] [] = ⟨true, .tup [.int .u64 (mHi x y), .int .u64 (wU (x * y))], []⟩ := by kernel_rfl

theorem wU_eq (x : Int) : wU x = x % 18446744073709551616 := by simp [wU, IntKind.wrap, IntKind.bits, IntKind.signed]
theorem mLow_eq {x : Int} (h0 : 0 ≤ x) (h : x < 18446744073709551616) : mLow x = x % 4294967296 := by
  have := and_low32 x h0 h
  rw [← this]; rfl
theorem mHigh_eq {x : Int} (h0 : 0 ≤ x) : mHigh x = x / 4294967296 := by unfold mHigh; rw [Int.fdiv_eq_ediv_of_nonneg _ (by omega)]
theorem mHi_eq {x y : Int} (hx0 : 0 ≤ x) (hx : x < 18446744073709551616) (hy0 : 0 ≤ y) (hy : y < 18446744073709551616) : mHi x y = x * y / 18446744073709551616 := by
  rw [← mul64_arith x y hx0 hx hy0 hy]
  have m0 : ∀ z : Int, 0 ≤ z % 18446744073709551616 ∧ z % 18446744073709551616 < 18446744073709551616 := fun z => by omega
  simp only [mHi, mW1, mT, wU_eq, mLow_eq hx0 hx, mLow_eq hy0 hy, mHigh_eq hx0, mHigh_eq hy0, mHigh_eq (m0 _).1, mLow_eq (m0 _).1 (m0 _).2]

def S33 : FSpec := fun args bxs => match args, bxs with | [.int .u64 x, .int .u64 y], [] => some (isU x && isU y, .tup [.int .u64 (x * y / 18446744073709551616), .int .u64 (x * y % 18446744073709551616)], []) | _, _ => none
theorem has33 : Has 53 S33 := has_of (l := []) (L := fun _ => none) (by simp) Try.func53 rfl (by kernel_rfl) (lok_none (by kernel_rfl)) (fun args bxs v bxs' h => by
  unfold S33 at h
  split at h <;> simp only [Option.some.injEq, Prod.mk.injEq, reduceCtorEq] at h
  obtain ⟨h1, rfl, rfl⟩ := h
  simp only [isU, Bool.and_eq_true, decide_eq_true_eq] at h1
  refine ⟨Nat.le_of_ble_eq_true (by kernel_rfl), _, run33 _ _, rfl, ?_, leB_refl _⟩
  rw [mHi_eq h1.1.1 h1.1.2 h1.2.1 h1.2.2, wU_eq]; exact .refl _) (fun h => by cases h)

end Go.Proofs

/-
  The bbr seat: math/bits.Div64.
-/
namespace Go.Proofs
open Go Go.Im

def dCond (yn0 un q r : Int) : Bool := bif decide (q ≥ 4294967296) then true else decide (wU (q * yn0) > wU (wU (4294967296 * r) + un))
def corrN (yn1 yn0 un : Int) : Nat → Int → Int → Option Int
  | 0, _, _ => none
  | n + 1, q, r => bif dCond yn0 un q r then (bif decide (wU (r + yn1) ≥ 4294967296) then some (wU (q - 1)) else corrN yn1 yn0 un n (wU (q - 1)) (wU (r + yn1))) else some q
def corr (yn1 yn0 un q r : Int) : Int := (corrN yn1 yn0 un 4 q r).getD 0
def corrOk (yn1 yn0 un q r : Int) : Bool := (corrN yn1 yn0 un 4 q r).isSome
abbrev uv (x : Int) : PVal := .int .u64 x
abbrev X34a (y s yn1 yn0 un32 un1 un0 q : Int) : List (Nat × PVal) := [(2, uv y), (8, uv s), (9, uv yn1), (10, uv yn0), (11, uv un32), (13, uv un1), (14, uv un0), (15, uv q)]
abbrev T34a (y s yn1 yn0 un32 un1 un0 q r : Int) : List (Nat × PVal) := [(2, uv y), (8, uv s), (9, uv yn1), (10, uv yn0), (11, uv un32), (13, uv un1), (14, uv un0), (15, uv q), (16, uv r)]
abbrev G34 : List (Nat × FSpec) := [(65, S35)]
theorem g34 : ∀ p ∈ G34, Has p.1 p.2 := by simpa [G34] using has35
theorem round34a (L : Nat → Option LSpec) (y s yn1 yn0 un32 un1 un0 q r : Int) (nb : Nat) (ok : Bool) (kn : St → Res) (kx : Nat → St → Res) (kr : St → Res) :
    exec (bbC G34 L) (loopAt Try.f54 0) (fun s => kn (norm [2, 8, 9, 10, 11, 13, 14, 15, 16] [] nb s)) (fun i s => kx i (norm [2, 8, 9, 10, 11, 13, 14, 15] [] nb s)) (fun s => kr (norm [2, 8, 9, 10, 11, 13, 14, 15] [] nb s))
      (headSt (T34a y s yn1 yn0 un32 un1 un0 q r) [] nb 135 ok) =
    bif dCond yn0 un1 q r then
      (bif decide (wU (r + yn1) ≥ 4294967296) then kx 0 (headSt (X34a y s yn1 yn0 un32 un1 un0 (wU (q - 1))) [] nb 135 ok)
       else kn (headSt (T34a y s yn1 yn0 un32 un1 un0 (wU (q - 1)) (wU (r + yn1))) [] nb 135 ok))
    else kx 0 (headSt (X34a y s yn1 yn0 un32 un1 un0 q) [] nb 135 ok) := by kernel_rfl
theorem loop34a (L : Nat → Option LSpec) (y s yn1 yn0 un32 un1 un0 : Int) (nb : Nat) (kx : Nat → St → Res) (kr : St → Res) (v : Int) : ∀ (n : Nat) (q r : Int), corrN yn1 yn0 un1 n q r = some v →
    loopN (bbC G34 L) (loopAt Try.f54 0) [2, 8, 9, 10, 11, 13, 14, 15, 16] [] [2, 8, 9, 10, 11, 13, 14, 15] [] nb n (headSt (T34a y s yn1 yn0 un32 un1 un0 q r) [] nb 135 true) kx kr = kx 0 (headSt (X34a y s yn1 yn0 un32 un1 un0 v) [] nb 135 true)
  | 0, q, r, h => by cases h
  | n + 1, q, r, h => by
    refine Eq.trans (round34a L y s yn1 yn0 un32 un1 un0 q r nb true (fun s => loopN (bbC G34 L) (loopAt Try.f54 0) [2, 8, 9, 10, 11, 13, 14, 15, 16] [] [2, 8, 9, 10, 11, 13, 14, 15] [] nb n s kx kr) kx kr) ?_
    simp only [corrN] at h
    cases h1 : dCond yn0 un1 q r with
    | false => rw [h1] at h; simp only [cond_false, Option.some.injEq] at h ⊢; rw [h]
    | true =>
      rw [h1] at h
      cases h2 : decide (wU (r + yn1) ≥ 4294967296) with
      | true => rw [h2] at h; simp only [cond_true, Option.some.injEq] at h ⊢; rw [h]
      | false => rw [h2] at h; simp only [cond_true, cond_false] at h ⊢; exact loop34a L y s yn1 yn0 un32 un1 un0 nb kx kr v n _ _ h
def F34a : LSpec := fun st kx kr => match st.tm 2, st.tm 8, st.tm 9, st.tm 10, st.tm 11, st.tm 13, st.tm 14, st.tm 15, st.tm 16, Nat.beq st.n 135 with
  | .int .u64 y, .int .u64 s, .int .u64 yn1, .int .u64 yn0, .int .u64 un32, .int .u64 un1, .int .u64 un0, .int .u64 q, .int .u64 r, true => kx 0 (headSt (X34a y s yn1 yn0 un32 un1 un0 (corr yn1 yn0 un1 q r)) [] st.nb 135 (andB st.ok (corrOk yn1 yn0 un1 q r)))
  | _, _, _, _, _, _, _, _, _, _ => Res.bad
theorem law34a (L : Nat → Option LSpec) : SoundL (bbC G34 L) (loopAt Try.f54 0) F34a := by
  refine soundL_of bb_mixed (bbEOk G34 L) (bbGOk L g34) [2, 8, 9, 10, 11, 13, 14, 15, 16] [] [2, 8, 9, 10, 11, 13, 14, 15] [] (fun _ => 4) (lok_none (by kernel_rfl)) fun st kx kr hx hr hok => ?_
  unfold F34a at hok ⊢
  split at hok
  · rename_i y s yn1 yn0 un32 un1 un0 q r h2 h8 h9 h10 h11 h13 h14 h15 h16 hn
    try simp only [h2, h8, h9, h10, h11, h13, h14, h15, h16, hn] at hok
    try simp only [h2, h8, h9, h10, h11, h13, h14, h15, h16, hn]
    obtain ⟨hok1, hc⟩ := andB_true (hx _ _ hok)
    obtain ⟨v, hv⟩ : ∃ v, corrN yn1 yn0 un1 4 q r = some v := Option.isSome_iff_exists.1 hc
    have e : norm [2, 8, 9, 10, 11, 13, 14, 15, 16] [] st.nb st = headSt (T34a y s yn1 yn0 un32 un1 un0 q r) [] st.nb 135 true := by
      have := Nat.eq_of_beq_eq_true hn
      simp [norm, headSt, keepT, keepB, h2, h8, h9, h10, h11, h13, h14, h15, h16, this, hok1, lowT, low, low0, lowB, andB]
    rw [e, loop34a L y s yn1 yn0 un32 un1 un0 st.nb kx kr v 4 q r hv]
    have e1 : corr yn1 yn0 un1 q r = v := by simp [corr, hv]
    rw [e1, hc, hok1]; rfl
  · cases hok

/-! ### the second loop -/
abbrev X34b (y s un0 q1 un21 q : Int) : List (Nat × PVal) := [(2, uv y), (8, uv s), (14, uv un0), (15, uv q1), (17, uv un21), (18, uv q)]
abbrev T34b (y s yn1 yn0 un0 q1 un21 q r : Int) : List (Nat × PVal) := [(2, uv y), (8, uv s), (9, uv yn1), (10, uv yn0), (14, uv un0), (15, uv q1), (17, uv un21), (18, uv q), (16, uv r)]
theorem round34b (L : Nat → Option LSpec) (y s yn1 yn0 un0 q1 un21 q r : Int) (nb : Nat) (ok : Bool) (kn : St → Res) (kx : Nat → St → Res) (kr : St → Res) :
    exec (bbC G34 L) (loopAt Try.f54 1) (fun s => kn (norm [2, 8, 9, 10, 14, 15, 17, 18, 16] [] nb s)) (fun i s => kx i (norm [2, 8, 14, 15, 17, 18] [] nb s)) (fun s => kr (norm [2, 8, 14, 15, 17, 18] [] nb s))
      (headSt (T34b y s yn1 yn0 un0 q1 un21 q r) [] nb 135 ok) =
    bif dCond yn0 un0 q r then
      (bif decide (wU (r + yn1) ≥ 4294967296) then kx 2 (headSt (X34b y s un0 q1 un21 (wU (q - 1))) [] nb 135 ok)
       else kn (headSt (T34b y s yn1 yn0 un0 q1 un21 (wU (q - 1)) (wU (r + yn1))) [] nb 135 ok))
    else kx 2 (headSt (X34b y s un0 q1 un21 q) [] nb 135 ok) := by kernel_rfl
theorem loop34b (L : Nat → Option LSpec) (y s yn1 yn0 un0 q1 un21 : Int) (nb : Nat) (kx : Nat → St → Res) (kr : St → Res) (v : Int) : ∀ (n : Nat) (q r : Int), corrN yn1 yn0 un0 n q r = some v →
    loopN (bbC G34 L) (loopAt Try.f54 1) [2, 8, 9, 10, 14, 15, 17, 18, 16] [] [2, 8, 14, 15, 17, 18] [] nb n (headSt (T34b y s yn1 yn0 un0 q1 un21 q r) [] nb 135 true) kx kr = kx 2 (headSt (X34b y s un0 q1 un21 v) [] nb 135 true)
  | 0, q, r, h => by cases h
  | n + 1, q, r, h => by
    refine Eq.trans (round34b L y s yn1 yn0 un0 q1 un21 q r nb true (fun s => loopN (bbC G34 L) (loopAt Try.f54 1) [2, 8, 9, 10, 14, 15, 17, 18, 16] [] [2, 8, 14, 15, 17, 18] [] nb n s kx kr) kx kr) ?_
    simp only [corrN] at h
    cases h1 : dCond yn0 un0 q r with
    | false => rw [h1] at h; simp only [cond_false, Option.some.injEq] at h ⊢; rw [h]
    | true =>
      rw [h1] at h
      cases h2 : decide (wU (r + yn1) ≥ 4294967296) with
      | true => rw [h2] at h; simp only [cond_true, Option.some.injEq] at h ⊢; rw [h]
      | false => rw [h2] at h; simp only [cond_true, cond_false] at h ⊢; exact loop34b L y s yn1 yn0 un0 q1 un21 nb kx kr v n _ _ h
def F34b : LSpec := fun st kx kr => match st.tm 2, st.tm 8, st.tm 9, st.tm 10, st.tm 14, st.tm 15, st.tm 17, st.tm 18, st.tm 16, Nat.beq st.n 135 with
  | .int .u64 y, .int .u64 s, .int .u64 yn1, .int .u64 yn0, .int .u64 un0, .int .u64 q1, .int .u64 un21, .int .u64 q, .int .u64 r, true => kx 2 (headSt (X34b y s un0 q1 un21 (corr yn1 yn0 un0 q r)) [] st.nb 135 (andB st.ok (corrOk yn1 yn0 un0 q r)))
  | _, _, _, _, _, _, _, _, _, _ => Res.bad
theorem law34b (L : Nat → Option LSpec) : SoundL (bbC G34 L) (loopAt Try.f54 1) F34b := by
  refine soundL_of bb_mixed (bbEOk G34 L) (bbGOk L g34) [2, 8, 9, 10, 14, 15, 17, 18, 16] [] [2, 8, 14, 15, 17, 18] [] (fun _ => 4) (lok_none (by kernel_rfl)) fun st kx kr hx hr hok => ?_
  unfold F34b at hok ⊢
  split at hok
  · rename_i y s yn1 yn0 un0 q1 un21 q r h2 h8 h9 h10 h14 h15 h17 h18 h16 hn
    try simp only [h2, h8, h9, h10, h14, h15, h17, h18, h16, hn] at hok
    try simp only [h2, h8, h9, h10, h14, h15, h17, h18, h16, hn]
    obtain ⟨hok1, hc⟩ := andB_true (hx _ _ hok)
    obtain ⟨v, hv⟩ : ∃ v, corrN yn1 yn0 un0 4 q r = some v := Option.isSome_iff_exists.1 hc
    have e : norm [2, 8, 9, 10, 14, 15, 17, 18, 16] [] st.nb st = headSt (T34b y s yn1 yn0 un0 q1 un21 q r) [] st.nb 135 true := by
      have := Nat.eq_of_beq_eq_true hn
      simp [norm, headSt, keepT, keepB, h2, h8, h9, h10, h14, h15, h17, h18, h16, this, hok1, lowT, low, low0, lowB, andB]
    rw [e, loop34b L y s yn1 yn0 un0 q1 un21 st.nb kx kr v 4 q r hv]
    have e1 : corr yn1 yn0 un0 q r = v := by simp [corr, hv]
    rw [e1, hc, hok1]; rfl
  · cases hok
def L34 : Nat → Option LSpec := fun i => match Nat.beq i 17, Nat.beq i 24 with | true, _ => some F34a | _, true => some F34b | _, _ => none

/-! ### the whole -/
def sh (x b : Int) : Int := IntKind.u64.wrap (x * 2 ^ min b.toNat 64)
def sr (x b : Int) : Int := x.fdiv (2 ^ min b.toNat 64)
structure Dv where
  s : Int
  y : Int
  yn1 : Int
  yn0 : Int
  un32 : Int
  un10 : Int
  un1 : Int
  un0 : Int
  q1 : Int
  r1 : Int
  q1' : Int
  un21 : Int
  q0 : Int
  r0 : Int
  q0' : Int
def dv (hi lo y0 : Int) : Dv :=
  let s := IntKind.u64.wrap (IntKind.i64.wrap (64 - (bitLen y0.toNat : Nat)))
  let y := sh y0 s
  let yn1 := y.fdiv 4294967296
  let yn0 := mLow y
  let un32 := bitsOp .u64 .or (sh hi s) (sr lo (wU (64 - s)))
  let un10 := sh lo s
  let un1 := un10.fdiv 4294967296
  let un0 := mLow un10
  let q1 := wU (un32.tdiv yn1)
  let r1 := wU (un32 - wU (q1 * yn1))
  let q1' := corr yn1 yn0 un1 q1 r1
  let un21 := wU (wU (wU (un32 * 4294967296) + un1) - wU (q1' * y))
  let q0 := wU (un21.tdiv yn1)
  let r0 := wU (un21 - wU (q0 * yn1))
  let q0' := corr yn1 yn0 un0 q0 r0
  ⟨s, y, yn1, yn0, un32, un10, un1, un0, q1, r1, q1', un21, q0, r0, q0'⟩
def dq (d : Dv) : Int := wU (wU (d.q1' * 4294967296) + d.q0')
def drm (d : Dv) : Int := sr (wU (wU (wU (d.un21 * 4294967296) + d.un0) - wU (d.q0' * d.y))) d.s
def ok2 (hi y : Int) : Bool := andB (andB true (!decide (y = 0))) (!decide (y ≤ hi))
def okA (hi y : Int) : Bool := andB (andB (ok2 hi y) (!(y == 0))) (!(y == 0))
def okB (hi lo y : Int) : Bool :=
  let d := dv hi lo y
  andB (andB (andB (andB (andB (andB (andB (andB (andB (andB (ok2 hi y) (isU y)) (decide (0 ≤ d.s))) (decide (0 ≤ d.s))) (decide (0 ≤ wU (64 - d.s)))) (decide (0 ≤ d.s))) (!(d.yn1 == 0))) (corrOk d.yn1 d.yn0 d.un1 d.q1 d.r1)) (!(d.yn1 == 0))) (corrOk d.yn1 d.yn0 d.un0 d.q0 d.r0)) (decide (0 ≤ d.s))
theorem run34 (hi lo y : Int) : runF (bbC G34 L34) Try.f54 [uv hi, uv lo, uv y] [] =
    bif decide (hi = 0) then ⟨okA hi y, .tup [uv (wU (lo.tdiv y)), uv (lo.tmod y)], []⟩ else ⟨okB hi lo y, .tup [uv (dq (dv hi lo y)), uv (drm (dv hi lo y))], []⟩ := by kernel_rfl

end Go.Proofs

/-
  The bbr seat: math/bits.Div64 does not fail.
-/
namespace Go.Proofs
open Go Go.Im

theorem corr_some {yn1 yn0 un q r : Int} (h1 : 2147483648 ≤ yn1) (h2 : yn1 < 4294967296) (h3 : 0 ≤ r) (h4 : r < 4294967296) : corrOk yn1 yn0 un q r = true := by
  unfold corrOk
  simp only [corrN]
  cases dCond yn0 un q r with
  | false => rfl
  | true =>
    simp only [cond_true]
    have e1 : wU (r + yn1) = r + yn1 := by rw [wU_eq]; omega
    rw [e1]
    cases hq : decide (r + yn1 ≥ 4294967296) with
    | true => rfl
    | false =>
      simp only [cond_false]
      have hlt : r + yn1 < 4294967296 := by simpa using hq
      cases dCond yn0 un (wU (q - 1)) (r + yn1) with
      | false => rfl
      | true =>
        simp only [cond_true]
        have e2 : wU (r + yn1 + yn1) = r + yn1 + yn1 := by rw [wU_eq]; omega
        have : decide (wU (r + yn1 + yn1) ≥ 4294967296) = true := by rw [e2]; simp; omega
        rw [this]; rfl

theorem wU_range (x : Int) : 0 ≤ wU x ∧ wU x < 18446744073709551616 := by rw [wU_eq]; omega
theorem rem_small {a b : Int} (ha0 : 0 ≤ a) (ha : a < 18446744073709551616) (hb : 0 < b) : wU (a - wU (wU (a.tdiv b) * b)) = a % b := by
  rw [Int.tdiv_eq_ediv_of_nonneg ha0]
  have h1 : 0 ≤ a / b := Int.ediv_nonneg ha0 (by omega)
  have h2 : a / b * b + a % b = a := Int.ediv_mul_add_emod a b
  have h3 := Int.emod_nonneg a (show b ≠ 0 by omega)
  have h4 := Int.emod_lt_of_pos a hb
  have h5 : a / b ≤ a := Int.ediv_le_self b ha0
  have h6 : 0 ≤ a / b * b := Int.mul_nonneg h1 (by omega)
  have e1 : wU (a / b) = a / b := by rw [wU_eq]; exact Int.emod_eq_of_lt h1 (by omega)
  rw [e1]
  have e2 : wU (a / b * b) = a / b * b := by rw [wU_eq]; exact Int.emod_eq_of_lt h6 (by omega)
  rw [e2, wU_eq]
  have : a - a / b * b = a % b := by omega
  rw [this]
  exact Int.emod_eq_of_lt h3 (by omega)

theorem shift_big {y : Int} (h0 : 0 < y) (h : y < 18446744073709551616) :
    0 ≤ (dv 0 0 y).s ∧ (dv 0 0 y).s ≤ 63 ∧ 9223372036854775808 ≤ sh y (dv 0 0 y).s ∧ sh y (dv 0 0 y).s < 18446744073709551616 := by
  obtain ⟨n, rfl⟩ := Int.eq_ofNat_of_zero_le (Int.le_of_lt h0)
  have hn : n ≠ 0 := by intro e; subst e; simp at h0
  have hb := bitLen_spec n
  have hn64 : n < 18446744073709551616 := by omega
  have hb1 : bitLen n ≤ 64 := by
    refine Nat.le_of_not_lt fun hlt => ?_
    have : 2 ^ 64 ≤ 2 ^ (bitLen n - 1) := Nat.pow_le_pow_right (by omega) (by omega)
    rw [show (2 : Nat) ^ 64 = 18446744073709551616 from rfl] at this
    have := hb.2 hn
    omega
  have hb0 : 0 < bitLen n := by simp [bitLen, hn]
  have hs : (dv 0 0 (n : Int)).s = ((64 - bitLen n : Nat) : Int) := by
    have e : (dv 0 0 (n : Int)).s = wU (IntKind.i64.wrap (64 - ((bitLen (n : Int).toNat : Nat) : Int))) := rfl
    rw [e, Int.toNat_natCast, wrap_i64 (by omega) (by omega), wU_eq]
    omega
  rw [hs]
  refine ⟨by omega, by omega, ?_⟩
  have hmin : min (((64 - bitLen n : Nat) : Int)).toNat 64 = 64 - bitLen n := by simp
  unfold sh
  rw [hmin]
  have hm : 2 ^ (bitLen n - 1) * 2 ^ (64 - bitLen n) = 9223372036854775808 := by
    rw [← Nat.pow_add, show bitLen n - 1 + (64 - bitLen n) = 63 by omega]
  have hM : 2 ^ bitLen n * 2 ^ (64 - bitLen n) = 18446744073709551616 := by
    rw [← Nat.pow_add, show bitLen n + (64 - bitLen n) = 64 by omega]
  have l1 : 9223372036854775808 ≤ n * 2 ^ (64 - bitLen n) := by rw [← hm]; exact Nat.mul_le_mul_right _ (hb.2 hn)
  have l2 : n * 2 ^ (64 - bitLen n) < 18446744073709551616 := by rw [← hM]; exact Nat.mul_lt_mul_of_pos_right hb.1 (Nat.two_pow_pos _)
  have e : ((n : Int) * 2 ^ (64 - bitLen n)) = ((n * 2 ^ (64 - bitLen n) : Nat) : Int) := by simp
  rw [e]
  have e2 : IntKind.u64.wrap ((n * 2 ^ (64 - bitLen n) : Nat) : Int) = _ := wU_eq ((n * 2 ^ (64 - bitLen n) : Nat) : Int)
  rw [e2]
  omega

theorem okB_true {hi lo y : Int} (h1 : 0 ≤ hi) (h2 : hi < y) (hy : y < 18446744073709551616) : okB hi lo y = true := by
  have hs := shift_big (y := y) (by omega) hy
  have es : (dv hi lo y).s = (dv 0 0 y).s := rfl
  have ey : (dv hi lo y).yn1 = (sh y (dv 0 0 y).s).fdiv 4294967296 := rfl
  have e1 : (dv hi lo y).yn1 = sh y (dv 0 0 y).s / 4294967296 := by rw [ey, Int.fdiv_eq_ediv_of_nonneg _ (by omega)]
  have y1 : 2147483648 ≤ (dv hi lo y).yn1 := by rw [e1]; omega
  have y2 : (dv hi lo y).yn1 < 4294967296 := by rw [e1]; omega
  have r1 : 0 ≤ (dv hi lo y).r1 ∧ (dv hi lo y).r1 < 4294967296 := by
    have hu := wU_range ((BitVec.ofInt 64 (sh hi (dv hi lo y).s) ||| BitVec.ofInt 64 (sr lo (wU (64 - (dv hi lo y).s)))).toNat : Int)
    have := rem_small (a := (dv hi lo y).un32) (b := (dv hi lo y).yn1) hu.1 hu.2 (by omega)
    have e : (dv hi lo y).r1 = (dv hi lo y).un32 % (dv hi lo y).yn1 := this
    have q1 := Int.emod_nonneg (dv hi lo y).un32 (show (dv hi lo y).yn1 ≠ 0 by omega)
    have q2 := Int.emod_lt_of_pos (dv hi lo y).un32 (show 0 < (dv hi lo y).yn1 by omega)
    rw [e]; omega
  have r0 : 0 ≤ (dv hi lo y).r0 ∧ (dv hi lo y).r0 < 4294967296 := by
    have hu : 0 ≤ (dv hi lo y).un21 ∧ (dv hi lo y).un21 < 18446744073709551616 := wU_range _
    have := rem_small (a := (dv hi lo y).un21) (b := (dv hi lo y).yn1) hu.1 hu.2 (by omega)
    have e : (dv hi lo y).r0 = (dv hi lo y).un21 % (dv hi lo y).yn1 := this
    have q1 := Int.emod_nonneg (dv hi lo y).un21 (show (dv hi lo y).yn1 ≠ 0 by omega)
    have q2 := Int.emod_lt_of_pos (dv hi lo y).un21 (show 0 < (dv hi lo y).yn1 by omega)
    rw [e]; omega
  have c1 : corrOk (dv hi lo y).yn1 (dv hi lo y).yn0 (dv hi lo y).un1 (dv hi lo y).q1 (dv hi lo y).r1 = true := corr_some y1 y2 r1.1 r1.2
  have c2 : corrOk (dv hi lo y).yn1 (dv hi lo y).yn0 (dv hi lo y).un0 (dv hi lo y).q0 (dv hi lo y).r0 = true := corr_some y1 y2 r0.1 r0.2
  have d1 : decide (0 ≤ (dv hi lo y).s) = true := by rw [es]; simpa using hs.1
  have d2 : decide (0 ≤ wU (64 - (dv hi lo y).s)) = true := by simpa using (wU_range _).1
  have d3 : (!((dv hi lo y).yn1 == 0)) = true := by simp; omega
  have d4 : isU y = true := by simp [isU]; omega
  have d5 : ok2 hi y = true := by
    have a1 : decide (y = 0) = false := by simp; omega
    have a2 : decide (y ≤ hi) = false := by simp; omega
    simp [ok2, andB, a1, a2]
  simp only [okB, c1, c2, d1, d2, d3, d4, d5, andB]

def qM (hi lo y : Int) : Int := bif decide (hi = 0) then lo / y else dq (dv hi lo y)
def rM (hi lo y : Int) : Int := bif decide (hi = 0) then lo % y else drm (dv hi lo y)
def S34 : FSpec := fun args bxs => match args, bxs with
  | [.int .u64 hi, .int .u64 lo, .int .u64 y], [] => some ((isU hi && isU lo) && (isU y && decide (hi < y)), .tup [.int .u64 (qM hi lo y), .int .u64 (rM hi lo y)], [])
  | _, _ => none
theorem has34 : Has 54 S34 := has_of (l := G34) (L := L34) g34 Try.func54 rfl (by kernel_rfl) (lok_two (b := loopAt Try.f54 0) (b2 := loopAt Try.f54 1) (f := F34a) (f2 := F34b) (by kernel_rfl) (by kernel_rfl) (by kernel_rfl) (law34a L34) (law34b L34)) (fun args bxs v bxs' h => by
  unfold S34 at h
  split at h <;> simp only [Option.some.injEq, Prod.mk.injEq, reduceCtorEq] at h
  obtain ⟨h1, rfl, rfl⟩ := h
  rename_i hi lo y
  simp only [isU, Bool.and_eq_true, decide_eq_true_eq] at h1
  obtain ⟨⟨⟨a1, a2⟩, a3, a4⟩, ⟨a5, a6⟩, a7⟩ := h1
  refine ⟨Nat.le_of_ble_eq_true (by kernel_rfl), _, run34 hi lo y, ?_⟩
  unfold qM rM
  cases hh : decide (hi = 0) with
  | true =>
    have e0 : hi = 0 := by simpa using hh
    subst e0
    simp only [cond_true]
    refine ⟨?_, ?_, leB_refl _⟩
    · have : (!(y == 0)) = true := by simp; omega
      have d5 : ok2 0 y = true := by
        have a1 : decide (y = 0) = false := by simp; omega
        have a2 : decide (y ≤ 0) = false := by simp; omega
        simp [ok2, andB, a1, a2]
      simp only [okA, d5, this, andB]
    · rw [Int.tdiv_eq_ediv_of_nonneg a3, Int.tmod_eq_emod_of_nonneg a3]
      have q1 : 0 ≤ lo / y := Int.ediv_nonneg a3 (by omega)
      have q2 : lo / y ≤ lo := Int.ediv_le_self y a3
      rw [wU_eq, Int.emod_eq_of_lt q1 (by omega)]
      exact .refl _
  | false =>
    simp only [cond_false]
    exact ⟨okB_true a1 a7 a6, .refl _, leB_refl _⟩) (fun h => by cases h)

end Go.Proofs

/-
  The bbr seat: seq.MulDiv, filter.Best.
-/
namespace Go.Proofs
open Go Go.Im

def mdBad (a b c : Int) : Bool := bif (bif decide (a < 0) then true else decide (b < 0)) then true else decide (c ≤ 0)
def mdH (a b : Int) : Int := wU a * wU b / 18446744073709551616
def mdL (a b : Int) : Int := wU a * wU b % 18446744073709551616
def mdQ (a b c : Int) : Int := qM (mdH a b) (mdL a b) (wU c)
def mdR (a b c : Int) : Int := IntKind.i64.wrap (if 9223372036854775807 < mdQ a b c then 9223372036854775807 else mdQ a b c)
def mdK1 (a b : Int) : Bool := andB true (isU (wU a) && isU (wU b))
def mdK2 (a b c : Int) : Bool := andB (mdK1 a b) ((isU (mdH a b) && isU (mdL a b)) && (isU (wU c) && decide (mdH a b < wU c)))
abbrev G28 : List (Nat × FSpec) := [(53, S33), (54, S34)]
theorem g28 : ∀ p ∈ G28, Has p.1 p.2 := by
  intro p hp
  simp only [G28, List.mem_cons, List.not_mem_nil, or_false] at hp
  rcases hp with rfl | rfl
  · exact has33
  · exact has34
theorem run28 (a b c : Int) : runF (bbC G28 fun _ => none) Try.f33 [.i64 a, .i64 b, .i64 c] [] =
    bif mdBad a b c then ⟨true, .tup [.i64 0, .i64 2], []⟩ else (bif decide (mdH a b ≥ wU c) then ⟨mdK1 a b, .tup [.i64 9223372036854775807, .i64 0], []⟩ else ⟨mdK2 a b c, .tup [.i64 (mdR a b c), .i64 0], []⟩) := by kernel_rfl

def isI (x : Int) : Bool := decide (-9223372036854775808 ≤ x) && decide (x ≤ 9223372036854775807)
def mdV (a b c : Int) : Int := bif mdBad a b c then 0 else (bif decide (mdH a b ≥ wU c) then 9223372036854775807 else mdR a b c)
def S28 : FSpec := fun args bxs => match args, bxs with | [.int .i64 a, .int .i64 b, .int .i64 c], [] => some (true, .tup [.i64 (mdV a b c), .i64 (bif mdBad a b c then 2 else 0)], []) | _, _ => none
theorem mdK1_true (a b : Int) : mdK1 a b = true := by
  have h1 := wU_range a
  have h2 := wU_range b
  simp [mdK1, isU, andB, h1, h2]
theorem mdK2_true {a b c : Int} (h : ¬ mdH a b ≥ wU c) : mdK2 a b c = true := by
  have h1 := wU_range a
  have h2 := wU_range b
  have h3 := wU_range c
  have l : 0 ≤ mdL a b ∧ mdL a b < 18446744073709551616 := by unfold mdL; omega
  have g0 : 0 ≤ wU a * wU b := Int.mul_nonneg h1.1 h2.1
  have g : 0 ≤ mdH a b := Int.ediv_nonneg g0 (by omega)
  have i1 : isU (mdH a b) = true := by simp [isU]; omega
  have i2 : isU (mdL a b) = true := by simp [isU]; omega
  have i3 : isU (wU c) = true := by simp [isU]; omega
  have i4 : decide (mdH a b < wU c) = true := by simp; omega
  simp [mdK2, mdK1_true, i1, i2, i3, i4, andB]
theorem has28 : Has 33 S28 := has_of (l := G28) (L := fun _ => none) g28 Try.func33 rfl (by kernel_rfl) (lok_none (by kernel_rfl)) (fun args bxs v bxs' h => by
  unfold S28 at h
  split at h <;> simp only [Option.some.injEq, Prod.mk.injEq, reduceCtorEq] at h
  obtain ⟨-, rfl, rfl⟩ := h
  rename_i a b c
  refine ⟨Nat.le_of_ble_eq_true (by kernel_rfl), _, run28 a b c, ?_⟩
  unfold mdV
  cases hb : mdBad a b c with
  | true => simp only [cond_true]; exact ⟨trivial, .refl _, leB_refl _⟩
  | false =>
    cases hc : decide (mdH a b ≥ wU c) with
    | true => simp only [cond_true, cond_false]; exact ⟨mdK1_true a b, .refl _, leB_refl _⟩
    | false => simp only [cond_false]; exact ⟨mdK2_true (by simpa using hc), .refl _, leB_refl _⟩) (fun h => by cases h)

/-! ### Best -/
def bestV : List Entry → Int
  | [] => 0
  | e :: _ => e.V
def bestB : List Entry → Bool
  | [] => false
  | _ :: _ => true
theorem run29a (o : Bool) : runF (bbC [] fun _ => none) Try.f64 [.slice .entry o []] [] = ⟨true, .tup [.i64 0, .bool false], []⟩ := by kernel_rfl
theorem run29 (o : Bool) (l : List Entry) : runF (bbC [] fun _ => none) Try.f64 [.slice .entry o l] [] =
    bif decide ((l.length : Int) = 0) then ⟨true, .tup [.i64 0, .bool false], []⟩ else ⟨andB true (decide ((0 : Int) ≤ 0) && decide ((0 : Int) < l.length)), .tup [.i64 (l.getD 0 eZ).V, .bool true], []⟩ := by kernel_rfl
def S29 : FSpec := fun args bxs => match args, bxs with | [.slice .entry _ l], [] => some (true, .tup [.i64 (bestV l), .bool (bestB l)], []) | _, _ => none
theorem has29 : Has 64 S29 := has_of (l := []) (L := fun _ => none) (by simp) Try.func64 rfl (by kernel_rfl) (lok_none (by kernel_rfl)) (fun args bxs v bxs' h => by
  unfold S29 at h
  split at h <;> simp only [Option.some.injEq, Prod.mk.injEq, reduceCtorEq] at h
  obtain ⟨-, rfl, rfl⟩ := h
  rename_i o l
  refine ⟨Nat.le_of_ble_eq_true (by kernel_rfl), _, run29 o l, ?_⟩
  cases l with
  | nil => exact ⟨rfl, .refl _, leB_refl _⟩
  | cons e t =>
    have : decide (((e :: t).length : Int) = 0) = false := by simp; omega
    rw [this]
    refine ⟨?_, .refl _, leB_refl _⟩
    simp [andB]) (fun h => by cases h)

end Go.Proofs

/-
  The bbr seat: the controller's state; what only looks at it.
-/
namespace Go.Proofs
open Go Go.Im

structure CcM where
  Kind : Int
  Mss : Int
  Cwnd : Int
  Ssthresh : Int
  Acc : Int
  Wmax : Int
  Epoch : Int
  K : Int
  West : Int
  Start : Int
  Mode : Int
  Bw : List Entry
  MinRtt : Int
  MinAt : Int
  Round : Int
  NextAt : Int
  Full : Int
  FullN : Int
  Phase : Int
  PhaseAt : Int
  DoneAt : Int
  Prior : Int
def ccCells (c : CcM) : List PVal := [.i64 c.Kind, .i64 c.Mss, .i64 c.Cwnd, .i64 c.Ssthresh, .i64 c.Acc, .i64 c.Wmax, .i64 c.Epoch, .i64 c.K, .i64 c.West, .i64 c.Start, .i64 c.Mode, .slice .entry false c.Bw, .i64 c.MinRtt, .i64 c.MinAt, .i64 c.Round, .i64 c.NextAt, .i64 c.Full, .i64 c.FullN, .i64 c.Phase, .i64 c.PhaseAt, .i64 c.DoneAt, .i64 c.Prior]
def decCc : List PVal → Option CcM
  | [.int .i64 a0, .int .i64 a1, .int .i64 a2, .int .i64 a3, .int .i64 a4, .int .i64 a5, .int .i64 a6, .int .i64 a7, .int .i64 a8, .int .i64 a9, .int .i64 a10, .slice .entry false l, .int .i64 a12, .int .i64 a13, .int .i64 a14, .int .i64 a15, .int .i64 a16, .int .i64 a17, .int .i64 a18, .int .i64 a19, .int .i64 a20, .int .i64 a21] =>
    some ⟨a0, a1, a2, a3, a4, a5, a6, a7, a8, a9, a10, l, a12, a13, a14, a15, a16, a17, a18, a19, a20, a21⟩
  | _ => none
theorem decCc_eq {cs : List PVal} {c : CcM} (h : decCc cs = some c) : cs = ccCells c := by
  unfold decCc at h
  split at h
  · cases h; rfl
  · cases h
theorem run23 (c : CcM) : runF (bbC [(64, S29)] fun _ => none) Try.f52 [.ptr 0 0] [ccCells c] = ⟨true, .i64 (bestV c.Bw), [ccCells c]⟩ := by kernel_rfl
theorem run22 (c : CcM) (S23 : FSpec) (h : S23 = fun args bxs => match args, bxs with | [.ptr 0 0], [cs] => (match decCc cs with | some c => some (true, .i64 (bestV c.Bw), [cs]) | none => none) | _, _ => none) :
    runF (bbC [(52, S23), (33, S28)] fun _ => none) Try.f56 [.ptr 0 0] [ccCells c] = ⟨true, .i64 (if mdV (bestV c.Bw) c.MinRtt 1000000 < 1073741824 then mdV (bestV c.Bw) c.MinRtt 1000000 else 1073741824), [ccCells c]⟩ := by subst h; kernel_rfl
theorem run26 (c : CcM) (now : Int) : runF (bbC [] fun _ => none) Try.f57 [.ptr 0 0, .i64 now] [ccCells c] = ⟨true, .tup [], [ccCells { c with Mode := 3, Phase := 2, PhaseAt := now }]⟩ := by kernel_rfl

end Go.Proofs
