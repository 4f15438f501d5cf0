/-
  The cc seat: sizes, times, sums.
-/
import Derived.Test.YtanjpdkglocjpaaMH

namespace Go.Proofs
open Go Go.Im

def szB (n : Int) : Bool := bAnd (decide (n ≥ 0)) (decide (n ≤ 1073741824))
def tmB (n : Int) : Bool := bAnd (decide (n ≥ 0)) (decide (n ≤ 1125899906842624))
def SB (p : Int → Bool) : FSpec := fun args bxs => match args, bxs with | [.int .i64 n], [] => some (true, .bool (p n), []) | _, _ => none
theorem runc18 (n : Int) : runF (bbC [] fun _ => none) Try.f18 [.i64 n] [] = ⟨true, .bool (szB n), []⟩ := by kernel_rfl
theorem hasc18 : Has 18 (SB szB) := has_of (l := []) (L := fun _ => none) (by simp) Try.func18 rfl (by kernel_rfl) (lok_none (by kernel_rfl)) (fun args bxs v bxs' h => by
  unfold SB at h
  split at h <;> cases h
  exact ⟨Nat.le_of_ble_eq_true (by kernel_rfl), _, runc18 _, rfl, .refl _, leB_refl _⟩) (fun h => by cases h)
theorem runc49 (n : Int) : runF (bbC [] fun _ => none) Try.f49 [.i64 n] [] = ⟨true, .bool (szB n), []⟩ := by kernel_rfl
theorem hasc49 : Has 49 (SB szB) := has_of (l := []) (L := fun _ => none) (by simp) Try.func49 rfl (by kernel_rfl) (lok_none (by kernel_rfl)) (fun args bxs v bxs' h => by
  unfold SB at h
  split at h <;> cases h
  exact ⟨Nat.le_of_ble_eq_true (by kernel_rfl), _, runc49 _, rfl, .refl _, leB_refl _⟩) (fun h => by cases h)
theorem runc24 (n : Int) : runF (bbC [] fun _ => none) Try.f24 [.i64 n] [] = ⟨true, .bool (tmB n), []⟩ := by kernel_rfl
theorem hasc24 : Has 24 (SB tmB) := has_of (l := []) (L := fun _ => none) (by simp) Try.func24 rfl (by kernel_rfl) (lok_none (by kernel_rfl)) (fun args bxs v bxs' h => by
  unfold SB at h
  split at h <;> cases h
  exact ⟨Nat.le_of_ble_eq_true (by kernel_rfl), _, runc24 _, rfl, .refl _, leB_refl _⟩) (fun h => by cases h)

def sumP (a b : Int) : Bool := bAnd (bAnd (decide (a > 0)) (decide (b > 0))) (decide (IntKind.i64.wrap (a + b) < 0))
def sumQ (a b : Int) : Bool := bAnd (bAnd (decide (a < 0)) (decide (b < 0))) (decide (IntKind.i64.wrap (a + b) ≥ 0))
def sumM (a b : Int) : Int := bif sumP a b then 9223372036854775807 else
  bif sumQ a b then -9223372036854775808 else IntKind.i64.wrap (a + b)
theorem runc61 (a b : Int) : runF (bbC [] fun _ => none) Try.f61 [.i64 a, .i64 b] [] =
    bif sumP a b then ⟨true, .i64 9223372036854775807, []⟩ else
    bif sumQ a b then ⟨true, .i64 (-9223372036854775808), []⟩ else ⟨true, .i64 (IntKind.i64.wrap (a + b)), []⟩ := by kernel_rfl
def S61c : FSpec := fun args bxs => match args, bxs with | [.int .i64 a, .int .i64 b], [] => some (true, .i64 (sumM a b), []) | _, _ => none
theorem hasc61 : Has 61 S61c := has_of (l := []) (L := fun _ => none) (by simp) Try.func61 rfl (by kernel_rfl) (lok_none (by kernel_rfl)) (fun args bxs v bxs' h => by
  unfold S61c at h
  split at h <;> cases h
  refine ⟨Nat.le_of_ble_eq_true (by kernel_rfl), _, runc61 _ _, ?_⟩
  unfold sumM
  rename_i a b
  cases sumP a b <;> cases sumQ a b <;> exact ⟨rfl, .refl _, leB_refl _⟩) (fun h => by cases h)

def byM (a b c : Int) : Int := mdV a b c
theorem runc62 (a b c : Int) : runF (bbC [(33, S28)] fun _ => none) Try.f62 [.i64 a, .i64 b, .i64 c] [] = ⟨true, .i64 (byM a b c), []⟩ := by kernel_rfl
def S62c : FSpec := fun args bxs => match args, bxs with | [.int .i64 a, .int .i64 b, .int .i64 c], [] => some (true, .i64 (byM a b c), []) | _, _ => none
theorem hasc62 : Has 62 S62c := has_of (l := [(33, S28)]) (L := fun _ => none) (by simpa using has28) Try.func62 rfl (by kernel_rfl) (lok_none (by kernel_rfl)) (fun args bxs v bxs' h => by
  unfold S62c at h
  split at h <;> cases h
  exact ⟨Nat.le_of_ble_eq_true (by kernel_rfl), _, runc62 _ _ _, rfl, .refl _, leB_refl _⟩) (fun h => by cases h)


/-! ### cubic.size -/
abbrev T47c (n i : Int) (x o : Bool) (l : List Int) : List (Nat × PVal) := [(2, .bool x), (5, .slice .i64 o l), (6, .i64 n), (7, .i64 i)]
theorem roundc47 (L : Nat → Option LSpec) (n i : Int) (x o ok : Bool) (l : List Int) (nb : Nat) (kn : St → Res) (kx : Nat → St → Res) (kr : St → Res) :
    exec (bbC [] L) (loopAt Try.f47 0) (fun s => kn (norm [2, 5, 6, 7] [] nb s)) (fun i s => kx i (norm [2] [] nb s)) (fun s => kr (norm [2] [] nb s)) (headSt (T47c n i x o l) [] nb 18 ok) =
    bif decide (i < n) then
      (bif (decide (l.getD i.toNat 0 < 0) || decide (l.getD i.toNat 0 > 1073741824)) then kr (headSt [(2, .bool false)] [] nb 18 (andB ok (decide (0 ≤ i) && decide (i < l.length))))
      else kn (headSt (T47c n (IntKind.i64.wrap (i + 1)) x o l) [] nb 18 (andB ok (decide (0 ≤ i) && decide (i < l.length)))))
    else kx 0 (headSt [(2, .bool x)] [] nb 18 ok) := by kernel_rfl
def F47c : LSpec := fun st kx kr => match st.tm 2, st.tm 5, st.tm 6, st.tm 7, Nat.beq st.n 18 with
  | .bool x, .slice .i64 o l, .int .i64 n, .int .i64 i, true =>
    (let c := decide (i = 0) && (decide (n = l.length) && lenOk l.length)
     bif l.all (okV 1073741824) then kx 0 (headSt [(2, .bool x)] [] st.nb 18 (andB st.ok c)) else kr (headSt [(2, .bool false)] [] st.nb 18 (andB st.ok c)))
  | _, _, _, _, _ => Res.bad
def L47c : Nat → Option LSpec := fun i => match Nat.beq i 2 with | true => some F47c | false => none
theorem loopc47 (L : Nat → Option LSpec) (x o : Bool) (l : List Int) (nb : Nat) (kx : Nat → St → Res) (kr : St → Res) (hl : l.length ≤ 4294967296) :
    ∀ (t : List Int) (i : Nat) (n : Nat), i + t.length = l.length → l.drop i = t → t.length < n →
    loopN (bbC [] L) (loopAt Try.f47 0) [2, 5, 6, 7] [] [2] [] nb n (headSt (T47c l.length i x o l) [] nb 18 true) kx kr =
    bif t.all (okV 1073741824) then kx 0 (headSt [(2, .bool x)] [] nb 18 true) else kr (headSt [(2, .bool false)] [] nb 18 true)
  | [], i, n + 1, h1, h2, h3 => by
    refine Eq.trans (roundc47 L l.length i x o true l nb (fun s => loopN (bbC [] L) (loopAt Try.f47 0) [2, 5, 6, 7] [] [2] [] nb n s kx kr) kx kr) ?_
    have : decide ((i : Int) < l.length) = false := by simp at h1 ⊢; omega
    rw [this]; rfl
  | v :: t, i, n + 1, h1, h2, h3 => by
    refine Eq.trans (roundc47 L l.length i x o true l nb (fun s => loopN (bbC [] L) (loopAt Try.f47 0) [2, 5, 6, 7] [] [2] [] nb n s kx kr) kx kr) ?_
    simp only [List.length_cons] at h1 h3
    have hv : l.getD (i : Int).toNat 0 = v := by
      have := congrArg (fun l => l[0]?) h2
      simp only [List.getElem?_drop, Nat.add_zero, List.getElem?_cons_zero] at this
      simp [List.getD, this]
    have e1 : decide ((i : Int) < l.length) = true := by simp; omega
    have e2 : decide ((0 : Int) ≤ i) = true := by simp
    have hw : IntKind.i64.wrap ((i : Int) + 1) = ((i + 1 : Nat) : Int) := by rw [wrap_i64 (by omega) (by omega)]; simp
    rw [hv, e1, e2, hw]
    have ih := loopc47 L x o l nb kx kr hl t (i + 1) n (by omega) (by rw [← List.drop_drop, h2]; simp) (by omega)
    simp only [cond_true, Bool.and_self, andB, ih, List.all_cons, okV]
    cases (decide (v < 0) || decide (v > 1073741824)) <;> rfl
theorem lawc47 (L : Nat → Option LSpec) : SoundL (bbC [] L) (loopAt Try.f47 0) F47c := by
  refine soundL_of bb_mixed (bbEOk [] L) (bbGOk L (by simp)) [2, 5, 6, 7] [] [2] [] (fun st => match st.tm 5 with | .slice _ _ l => l.length + 1 | _ => 0) (lok_none (by kernel_rfl)) fun st kx kr hx hr hok => ?_
  unfold F47c at hok ⊢
  split at hok
  · rename_i x o l n i h2 h5 h6 h7 hn
    try simp only [h2, h5, h6, h7, hn] at hok
    try simp only [h2, h5, h6, h7, hn]
    have hc : st.ok = true ∧ (decide (i = 0) && (decide (n = l.length) && lenOk l.length)) = true := by
      cases hb : l.all (okV 1073741824) <;> simp only [hb, cond_true, cond_false] at hok
      · exact andB_true (hr _ hok)
      · exact andB_true (hx _ _ hok)
    obtain ⟨hok1, hc⟩ := hc
    simp only [Bool.and_eq_true, decide_eq_true_eq] at hc
    obtain ⟨rfl, rfl, hlen⟩ := hc
    have hl : l.length ≤ 4294967296 := Nat.le_of_ble_eq_true hlen
    have e : norm [2, 5, 6, 7] [] st.nb st = headSt (T47c l.length (0 : Nat) x o l) [] st.nb 18 true := by
      have := Nat.eq_of_beq_eq_true hn
      simp [norm, headSt, keepT, keepB, h2, h5, h6, h7, this, hok1, lowT, low, low0, lowB, andB]
    rw [e, loopc47 L x o l st.nb kx kr hl l 0 _ (by simp) (by simp) (Nat.lt_succ_self _)]
    simp [hok1, hlen, andB]
  · cases hok
theorem runc47 (o : Bool) (l : List Int) : runF (bbC [] L47c) Try.f47 [.slice .i64 o l] [] =
    bif l.all (okV 1073741824) then ⟨andB true (decide ((0 : Int) = 0) && (decide ((l.length : Int) = l.length) && lenOk l.length)), .bool true, []⟩ else ⟨andB true (decide ((0 : Int) = 0) && (decide ((l.length : Int) = l.length) && lenOk l.length)), .bool false, []⟩ := by kernel_rfl
def S47c : FSpec := fun args bxs => match args, bxs with | [.slice .i64 _ l], [] => some (lenOk l.length, .bool (l.all (okV 1073741824)), []) | _, _ => none
theorem hasc47 : Has 47 S47c := has_of (l := []) (L := L47c) (by simp) Try.func47 rfl (by kernel_rfl) (lok_one (b := loopAt Try.f47 0) (f := F47c) (by kernel_rfl) (by kernel_rfl) (lawc47 L47c)) (fun args bxs v bxs' h => by
  unfold S47c at h
  split at h <;> simp only [Option.some.injEq, Prod.mk.injEq, reduceCtorEq] at h
  obtain ⟨h1, rfl, rfl⟩ := h
  rename_i o l
  refine ⟨Nat.le_of_ble_eq_true (by kernel_rfl), _, runc47 o l, ?_⟩
  cases hb : l.all (okV 1073741824) <;> simp [andB, h1] <;> exact ⟨.refl _, leB_refl _⟩) (fun h => by cases h)

/-! ### Cbrt -/
def cbY (x i : Int) : Int := bitsOp .i64 .or x (IntKind.i64.wrap (1 * 2 ^ min (IntKind.i64.wrap (20 - i)).toNat 64))
def cbX (n x i : Int) : Int := bif decide (IntKind.i64.wrap (IntKind.i64.wrap (cbY x i * cbY x i) * cbY x i) ≤ n) then cbY x i else x
abbrev T68c (n x i : Int) : List (Nat × PVal) := [(0, .i64 n), (3, .i64 x), (6, .i64 i)]
theorem roundc68 (L : Nat → Option LSpec) (n x i : Int) (ok : Bool) (nb : Nat) (kn : St → Res) (kx : Nat → St → Res) (kr : St → Res) :
    exec (bbC [] L) (loopAt Try.f68 0) (fun s => kn (norm [0, 3, 6] [] nb s)) (fun i s => kx i (norm [3] [] nb s)) (fun s => kr (norm [3] [] nb s)) (headSt (T68c n x i) [] nb 24 ok) =
    bif decide (i < 21) then kn (headSt (T68c n (cbX n x i) (IntKind.i64.wrap (i + 1))) [] nb 24 (andB ok (decide (0 ≤ IntKind.i64.wrap (20 - i)))))
    else kx 0 (headSt [(3, .i64 x)] [] nb 24 ok) := by kernel_rfl
def cbN (n : Int) : Nat → Int → Int → Int
  | 0, x, _ => x
  | k + 1, x, i => bif decide (i < 21) then cbN n k (cbX n x i) (IntKind.i64.wrap (i + 1)) else x
def cbM (n : Int) : Int := cbN n 22 0 0
theorem loopc68 (L : Nat → Option LSpec) (n : Int) (nb : Nat) (kx : Nat → St → Res) (kr : St → Res) : ∀ (k : Nat) (x : Int) (i : Nat), i ≤ 21 → 21 < i + k →
    loopN (bbC [] L) (loopAt Try.f68 0) [0, 3, 6] [] [3] [] nb k (headSt (T68c n x i) [] nb 24 true) kx kr = kx 0 (headSt [(3, .i64 (cbN n k x i))] [] nb 24 true)
  | 0, x, i, h1, h2 => by omega
  | k + 1, x, i, h1, h2 => by
    refine Eq.trans (roundc68 L n x i true nb (fun s => loopN (bbC [] L) (loopAt Try.f68 0) [0, 3, 6] [] [3] [] nb k s kx kr) kx kr) ?_
    simp only [cbN]
    by_cases h : (i : Int) < 21
    · have e0 : decide ((i : Int) < 21) = true := decide_eq_true h
      have e1 : decide (0 ≤ IntKind.i64.wrap (20 - (i : Int))) = true := by rw [wrap_i64 (by omega) (by omega)]; exact decide_eq_true (by omega)
      have e2 : IntKind.i64.wrap ((i : Int) + 1) = ((i + 1 : Nat) : Int) := by rw [wrap_i64 (by omega) (by omega)]; simp
      rw [e0, e1, e2]
      exact loopc68 L n nb kx kr k _ (i + 1) (by omega) (by omega)
    · have e0 : decide ((i : Int) < 21) = false := decide_eq_false h
      rw [e0]; rfl
def F68c : LSpec := fun st kx _ => match st.tm 0, st.tm 3, st.tm 6, Nat.beq st.n 24 with
  | .int .i64 n, .int .i64 x, .int .i64 i, true => kx 0 (headSt [(3, .i64 (cbN n 22 x 0))] [] st.nb 24 (andB st.ok (decide (i = 0))))
  | _, _, _, _ => Res.bad
theorem lawc68 (L : Nat → Option LSpec) : SoundL (bbC [] L) (loopAt Try.f68 0) F68c := by
  refine soundL_of bb_mixed (bbEOk [] L) (bbGOk L (by simp)) [0, 3, 6] [] [3] [] (fun _ => 22) (lok_none (by kernel_rfl)) fun st kx kr hx hr hok => ?_
  unfold F68c at hok ⊢
  split at hok
  · rename_i n x i h0 h3 h6 hn
    try simp only [h0, h3, h6, hn]
    obtain ⟨hok1, hc⟩ := andB_true (hx _ _ hok)
    obtain rfl := of_decide_eq_true hc
    have e : norm [0, 3, 6] [] st.nb st = headSt (T68c n x (0 : Nat)) [] st.nb 24 true := by
      have := Nat.eq_of_beq_eq_true hn
      simp [norm, headSt, keepT, keepB, h0, h3, h6, this, hok1, lowT, low, low0, lowB, andB]
    rw [e, loopc68 L n st.nb kx kr 22 x 0 (by omega) (by omega)]
    simp [hok1, andB]
  · cases hok
def L68c : Nat → Option LSpec := fun i => match Nat.beq i 3 with | true => some F68c | false => none
theorem runc68 (n : Int) : runF (bbC [] L68c) Try.f68 [.i64 n] [] = ⟨andB true (decide ((0 : Int) = 0)), .i64 (cbM n), []⟩ := by kernel_rfl
def S68c : FSpec := fun args bxs => match args, bxs with | [.int .i64 n], [] => some (true, .i64 (cbM n), []) | _, _ => none
theorem hasc68 : Has 68 S68c := has_of (l := []) (L := L68c) (by simp) Try.func68 rfl (by kernel_rfl) (lok_one (b := loopAt Try.f68 0) (f := F68c) (by kernel_rfl) (by kernel_rfl) (lawc68 L68c)) (fun args bxs v bxs' h => by
  unfold S68c at h
  split at h <;> cases h
  exact ⟨Nat.le_of_ble_eq_true (by kernel_rfl), _, runc68 _, rfl, .refl _, leB_refl _⟩) (fun h => by cases h)

end Go.Proofs

/-
  The cc seat: reno.
-/
namespace Go.Proofs
open Go Go.Im

def plainR (c : CcM) : Bool :=
  bAnd (bAnd (bAnd (bAnd (bAnd (bAnd (bAnd (bAnd (bAnd (bAnd (bAnd (bAnd (bAnd (bAnd (bAnd (bAnd (decide (c.Wmax = 0)) (decide (c.Epoch = 0))) (decide (c.K = 0))) (decide (c.West = 0))) (decide (c.Start = 0))) (decide (c.Mode = 0))) (decide ((c.Bw.length : Int) = 0))) (decide (c.MinRtt = 0))) (decide (c.MinAt = 0))) (decide (c.Round = 0))) (decide (c.NextAt = 0))) (decide (c.Full = 0))) (decide (c.FullN = 0))) (decide (c.Phase = 0))) (decide (c.PhaseAt = 0))) (decide (c.DoneAt = 0))) (decide (c.Prior = 0))
theorem runc50 (c : CcM) : runF (bbC [] fun _ => none) Try.f50 [.ptr 0 0] [ccCells c] = ⟨true, .bool (plainR c), [ccCells c]⟩ := by kernel_rfl
def S50c : FSpec := fun args bxs => match args, bxs with | [.ptr 0 0], [cs] => (match decCc cs with | some c => some (true, .bool (plainR c), [cs]) | none => none) | _, _ => none
theorem hasc50 : Has 50 S50c := has_of (l := []) (L := fun _ => none) (by simp) Try.func50 rfl (by kernel_rfl) (lok_none (by kernel_rfl)) (fun args bxs v bxs' h => by
  unfold S50c at h
  split at h <;> (try (cases h; done))
  rename_i cs
  cases hd : decCc cs with
  | none => rw [hd] at h; cases h
  | some c =>
    rw [hd] at h
    simp only [Option.some.injEq, Prod.mk.injEq] at h
    obtain ⟨-, rfl, rfl⟩ := h
    obtain rfl := decCc_eq hd
    exact ⟨Nat.le_of_ble_eq_true (by kernel_rfl), _, runc50 c, rfl, .refl _, leB_refl _⟩) (fun _ args bxs ok v bxs' h => by
  unfold S50c at h
  split at h <;> (try (cases h; done))
  split at h <;> cases h
  rfl)

def badR (c : CcM) : Bool := bOr (bOr (bOr (bOr (bOr (bOr (bOr (bOr (!decide (c.Kind = 1)) (decide (c.Mss < 1))) (decide (c.Mss > 65000))) (decide (c.Cwnd < c.Mss))) (!szB c.Cwnd)) (decide (c.Ssthresh < IntKind.i64.wrap (2 * c.Mss)))) (!szB c.Ssthresh)) (!szB c.Acc)) (!plainR c)
abbrev Gc28 : List (Nat × FSpec) := [(49, SB szB), (50, S50c)]
theorem gc28 : ∀ p ∈ Gc28, Has p.1 p.2 := by
  intro p hp
  simp only [Gc28, List.mem_cons, List.not_mem_nil, or_false] at hp
  rcases hp with rfl | rfl
  · exact hasc49
  · exact hasc50
theorem runc28 (c : CcM) : runF (bbC Gc28 fun _ => none) Try.f28 [.agg (ccCells c)] [] = bif badR c then ⟨true, .i64 230, []⟩ else ⟨true, .i64 0, []⟩ := by kernel_rfl
def S28c : FSpec := fun args bxs => match args, bxs with | [.agg cs], [] => (match decCcW cs with | some c => some (true, .i64 (bif badR c then 230 else 0), []) | none => none) | _, _ => none
theorem hasc28 : Has 28 S28c := has_of2 (l := Gc28) (L := fun _ => none) gc28 Try.func28 rfl (by kernel_rfl) (lok_none (by kernel_rfl)) (fun args bxs v bxs' h => by
  unfold S28c at h
  split at h <;> (try (cases h; done))
  rename_i cs
  cases hd : decCcW cs with
  | none => rw [hd] at h; cases h
  | some c =>
    rw [hd] at h
    simp only [Option.some.injEq, Prod.mk.injEq] at h
    obtain ⟨-, rfl, rfl⟩ := h
    refine ⟨[.agg (ccCells c)], [], leL_cons (leV_agg (decCcW_le hd)) leL_nil, leB_nil, Nat.le_of_ble_eq_true (by kernel_rfl), _, runc28 c, ?_⟩
    cases badR c <;> exact ⟨rfl, .refl _, leB_refl _⟩) (fun h => by cases h)

/-- what 'begun' answers -/
def begE (c : CcM) (n : Int) : Int := bif badR c then 230 else bif !szB n then 2 else 0
def begC (c : CcM) (n : Int) : CcM := bif badR c then ccZ else bif !szB n then ccZ else c
abbrev Gc34 : List (Nat × FSpec) := [(28, S28c), (49, SB szB)]
theorem gc34 : ∀ p ∈ Gc34, Has p.1 p.2 := by
  intro p hp
  simp only [Gc34, List.mem_cons, List.not_mem_nil, or_false] at hp
  rcases hp with rfl | rfl
  · exact hasc28
  · exact hasc49
theorem runc34 (c : CcM) (n : Int) : runF (bbC Gc34 fun _ => none) Try.f34 [.agg (ccCells c), .i64 n] [] =
    bif !decide ((bif badR c then 230 else 0 : Int) = 0) then ⟨true, .tup [.ptr 0 0, .i64 230], [ccZcells]⟩ else
    bif !szB n then ⟨true, .tup [.ptr 0 0, .i64 2], [ccZcells]⟩ else ⟨true, .tup [.ptr 0 0, .i64 0], [ccCells c]⟩ := by kernel_rfl
def S34c : FSpec := fun args bxs => match args, bxs with | [.agg cs, .int .i64 n], [] => (match decCcW cs with | some c => some (true, .tup [.ptr 0 0, .i64 (begE c n)], [ccCells (begC c n)]) | none => none) | _, _ => none
theorem decE (b : Bool) (k : Int) (hk : k ≠ 0) : (!decide ((bif b then k else 0 : Int) = 0)) = b := by cases b <;> simp [hk]
theorem hasc34 : Has 34 S34c := has_of2 (l := Gc34) (L := fun _ => none) gc34 Try.func34 rfl (by kernel_rfl) (lok_none (by kernel_rfl)) (fun args bxs v bxs' h => by
  unfold S34c at h
  split at h <;> (try (cases h; done))
  rename_i cs n
  cases hd : decCcW cs with
  | none => rw [hd] at h; cases h
  | some c =>
    rw [hd] at h
    simp only [Option.some.injEq, Prod.mk.injEq] at h
    obtain ⟨-, rfl, rfl⟩ := h
    refine ⟨[.agg (ccCells c), .i64 n], [], leL_cons (leV_agg (decCcW_le hd)) (leL_refl _), leB_nil, Nat.le_of_ble_eq_true (by kernel_rfl), _, runc34 c n, ?_⟩
    rw [decE _ _ (by omega)]
    unfold begE begC
    cases badR c <;> cases szB n
    · exact ⟨rfl, .refl _, leB_cons leZ leB_nil⟩
    · exact ⟨rfl, .refl _, leB_refl _⟩
    · exact ⟨rfl, .refl _, leB_cons leZ leB_nil⟩
    · exact ⟨rfl, .refl _, leB_cons leZ leB_nil⟩) (fun h => by cases h)

def riseM (c : CcM) (n : Int) : CcM := { c with Cwnd := if IntKind.i64.wrap (c.Cwnd + n) < 1073741824 then IntKind.i64.wrap (c.Cwnd + n) else 1073741824 }
/-- a method with a number -/
def SI (out : CcM → Int → CcM) : FSpec := fun args bxs => match args, bxs with
  | [.ptr 0 0, .int .i64 n], [cs] => (match decCc cs with | some c => some (true, .tup [], [ccCells (out c n)]) | none => none)
  | _, _ => none
theorem SI_inv {out : CcM → Int → CcM} {args : List PVal} {bxs : List (List PVal)} {v : PVal} {bxs' : List (List PVal)} (h : SI out args bxs = some (true, v, bxs')) :
    ∃ c n, args = [.ptr 0 0, .i64 n] ∧ bxs = [ccCells c] ∧ v = .tup [] ∧ bxs' = [ccCells (out c n)] := by
  unfold SI at h
  split at h <;> (try (cases h; done))
  rename_i n cs
  split at h <;> (try (cases h; done))
  rename_i c hc
  simp only [Option.some.injEq, Prod.mk.injEq] at h
  obtain ⟨-, rfl, rfl⟩ := h
  exact ⟨c, n, rfl, by rw [decCc_eq hc], rfl, rfl⟩
theorem runc46 (c : CcM) (n : Int) : runF (bbC [] fun _ => none) Try.f46 [.ptr 0 0, .i64 n] [ccCells c] = ⟨true, .tup [], [ccCells (riseM c n)]⟩ := by kernel_rfl
theorem hasc46 : Has 46 (SI riseM) := has_of (l := []) (L := fun _ => none) (by simp) Try.func46 rfl (by kernel_rfl) (lok_none (by kernel_rfl)) (fun args bxs v bxs' h => by
  obtain ⟨c, n, rfl, rfl, rfl, rfl⟩ := SI_inv h
  exact ⟨Nat.le_of_ble_eq_true (by kernel_rfl), _, runc46 c n, rfl, .refl _, leB_refl _⟩) (fun h => by cases h)

/-! ### Acked, Loss, Timeout -/
abbrev Gc26 : List (Nat × FSpec) := [(34, S34c), (46, SI riseM)]
theorem gc26 : ∀ p ∈ Gc26, Has p.1 p.2 := by
  intro p hp
  simp only [Gc26, List.mem_cons, List.not_mem_nil, or_false] at hp
  rcases hp with rfl | rfl
  · exact hasc34
  · exact hasc46
def min64 (x y : Int) : Int := if y < x then y else x
def max64 (x y : Int) : Int := if y > x then y else x
def accM (c : CcM) (n : Int) : CcM := { c with Acc := min64 1073741824 (IntKind.i64.wrap (c.Acc + n)) }
def rackM (c : CcM) (n : Int) : CcM := CcM.mrg (decide ((accM c n).Acc ≥ (accM c n).Cwnd)) (riseM { accM c n with Acc := IntKind.i64.wrap ((accM c n).Acc - (accM c n).Cwnd) } (accM c n).Mss) (accM c n)
theorem runc26 (c : CcM) (n : Int) (idle : Bool) : runF (bbC Gc26 fun _ => none) Try.f26 [.agg (ccCells c), .i64 n, .bool idle] [] =
    bif bOr (!decide (begE c n = 0)) idle then ⟨true, .tup [.agg (ccCells (begC c n)), .i64 (begE c n)], []⟩ else
    bif decide ((begC c n).Cwnd < (begC c n).Ssthresh) then ⟨true, .tup [.agg (ccCells (riseM (begC c n) (min64 n (begC c n).Mss))), .i64 (begE c n)], []⟩ else
    ⟨true, .tup [.agg (ccCells (rackM (begC c n) n)), .i64 (begE c n)], []⟩ := by kernel_rfl
def rAck (c : CcM) (n : Int) (idle : Bool) : CcM := bif bOr (!decide (begE c n = 0)) idle then begC c n else bif decide ((begC c n).Cwnd < (begC c n).Ssthresh) then riseM (begC c n) (min64 n (begC c n).Mss) else rackM (begC c n) n
def S26c : FSpec := fun args bxs => match args, bxs with | [.agg cs, .int .i64 n, .bool idle], [] => (match decCcW cs with | some c => some (true, .tup [.agg (ccCells (rAck c n idle)), .i64 (begE c n)], []) | none => none) | _, _ => none
theorem hasc26 : Has 26 S26c := has_of2 (l := Gc26) (L := fun _ => none) gc26 Try.func26 rfl (by kernel_rfl) (lok_none (by kernel_rfl)) (fun args bxs v bxs' h => by
  unfold S26c at h
  split at h <;> (try (cases h; done))
  rename_i cs n idle
  cases hd : decCcW cs with
  | none => rw [hd] at h; cases h
  | some c =>
    rw [hd] at h
    simp only [Option.some.injEq, Prod.mk.injEq] at h
    obtain ⟨-, rfl, rfl⟩ := h
    refine ⟨[.agg (ccCells c), .i64 n, .bool idle], [], leL_cons (leV_agg (decCcW_le hd)) (leL_refl _), leB_nil, Nat.le_of_ble_eq_true (by kernel_rfl), _, runc26 c n idle, ?_⟩
    unfold rAck
    cases bOr (!decide (begE c n = 0)) idle <;> cases decide ((begC c n).Cwnd < (begC c n).Ssthresh) <;> exact ⟨rfl, .refl _, leB_refl _⟩) (fun h => by cases h)

/-- a function of the controller and a number -/
def SN (out : CcM → Int → CcM) (e : CcM → Int → Int) : FSpec := fun args bxs => match args, bxs with | [.agg cs, .int .i64 n], [] => (match decCcW cs with | some c => some (true, .tup [.agg (ccCells (out c n)), .i64 (e c n)], []) | none => none) | _, _ => none
theorem SN_inv {out : CcM → Int → CcM} {e : CcM → Int → Int} {args : List PVal} {bxs : List (List PVal)} {v : PVal} {bxs' : List (List PVal)} (h : SN out e args bxs = some (true, v, bxs')) :
    ∃ cs n c, args = [.agg cs, .i64 n] ∧ bxs = [] ∧ decCcW cs = some c ∧ v = .tup [.agg (ccCells (out c n)), .i64 (e c n)] ∧ bxs' = [] := by
  unfold SN at h
  split at h <;> (try (cases h; done))
  rename_i cs n
  split at h <;> (try (cases h; done))
  rename_i c hc
  simp only [Option.some.injEq, Prod.mk.injEq] at h
  obtain ⟨-, rfl, rfl⟩ := h
  exact ⟨cs, n, c, rfl, rfl, hc, rfl, rfl⟩
def rLoss (c : CcM) (n : Int) : CcM := { begC c n with Ssthresh := bif decide (begE c n = 0) then max64 (IntKind.i64.wrap (2 * (begC c n).Mss)) (IntKind.i64.wrap (n.tdiv 2)) else (begC c n).Ssthresh, Acc := bif decide (begE c n = 0) then 0 else (begC c n).Acc }
theorem runc19 (c : CcM) (n : Int) : runF (bbC Gc26 fun _ => none) Try.f19 [.agg (ccCells c), .i64 n] [] = ⟨true, .tup [.agg (ccCells (rLoss c n)), .i64 (begE c n)], []⟩ := by kernel_rfl
theorem hasc19 : Has 19 (SN rLoss begE) := has_of2 (l := Gc26) (L := fun _ => none) gc26 Try.func19 rfl (by kernel_rfl) (lok_none (by kernel_rfl)) (fun args bxs v bxs' h => by
  obtain ⟨cs, n, c, rfl, rfl, hd, rfl, rfl⟩ := SN_inv h
  exact ⟨[.agg (ccCells c), .i64 n], [], leL_cons (leV_agg (decCcW_le hd)) (leL_refl _), leB_nil, Nat.le_of_ble_eq_true (by kernel_rfl), _, runc19 c n, rfl, .refl _, leB_refl _⟩) (fun h => by cases h)
def rTo (c : CcM) (n : Int) : CcM := { rLoss c n with Cwnd := (rLoss c n).Mss }
theorem runc21 (c : CcM) (n : Int) : runF (bbC [(19, SN rLoss begE)] fun _ => none) Try.f21 [.agg (ccCells c), .i64 n] [] = ⟨true, .tup [.agg (ccCells (rTo c n)), .i64 (begE c n)], []⟩ := by kernel_rfl
theorem hasc21 : Has 21 (SN rTo begE) := has_of2 (l := [(19, SN rLoss begE)]) (L := fun _ => none) (by simpa using hasc19) Try.func21 rfl (by kernel_rfl) (lok_none (by kernel_rfl)) (fun args bxs v bxs' h => by
  obtain ⟨cs, n, c, rfl, rfl, hd, rfl, rfl⟩ := SN_inv h
  exact ⟨[.agg (ccCells c), .i64 n], [], leL_cons (leV_agg (decCcW_le hd)) (leL_refl _), leB_nil, Nat.le_of_ble_eq_true (by kernel_rfl), _, runc21 c n, rfl, .refl _, leB_refl _⟩) (fun h => by cases h)

end Go.Proofs

/-
  The cc seat: cubic.
-/
namespace Go.Proofs
open Go Go.Im

def bareQ (c : CcM) : CcM := { c with Kind := 1, Wmax := 0, Epoch := 0, K := 0, West := 0, Start := 0 }
def badQ (c : CcM) : Bool := bOr (bOr (bOr (bOr (bOr (bOr (!decide (c.Kind = 2)) (!decide ((bif badR (bareQ c) then 230 else 0 : Int) = 0))) (!([c.Wmax, c.West, c.Start].all (okV 1073741824)))) (decide (c.K < 0))) (decide (c.K > 2097151))) (decide (c.Epoch < -1))) (decide (c.Epoch > 1125899906842624))
abbrev Gc29 : List (Nat × FSpec) := [(28, S28c), (47, S47c)]
theorem gc29 : ∀ p ∈ Gc29, Has p.1 p.2 := by
  intro p hp
  simp only [Gc29, List.mem_cons, List.not_mem_nil, or_false] at hp
  rcases hp with rfl | rfl
  · exact hasc28
  · exact hasc47
theorem runc29 (c : CcM) : runF (bbC Gc29 fun _ => none) Try.f29 [.agg (ccCells c)] [] = bif badQ c then ⟨true, .i64 230, []⟩ else ⟨true, .i64 0, []⟩ := by kernel_rfl
def S29c : FSpec := fun args bxs => match args, bxs with | [.agg cs], [] => (match decCcW cs with | some c => some (true, .i64 (bif badQ c then 230 else 0), []) | none => none) | _, _ => none
theorem hasc29 : Has 29 S29c := has_of2 (l := Gc29) (L := fun _ => none) gc29 Try.func29 rfl (by kernel_rfl) (lok_none (by kernel_rfl)) (fun args bxs v bxs' h => by
  unfold S29c at h
  split at h <;> (try (cases h; done))
  rename_i cs
  cases hd : decCcW cs with
  | none => rw [hd] at h; cases h
  | some c =>
    rw [hd] at h
    simp only [Option.some.injEq, Prod.mk.injEq] at h
    obtain ⟨-, rfl, rfl⟩ := h
    refine ⟨[.agg (ccCells c)], [], leL_cons (leV_agg (decCcW_le hd)) leL_nil, leB_nil, Nat.le_of_ble_eq_true (by kernel_rfl), _, runc29 c, ?_⟩
    cases badQ c <;> exact ⟨rfl, .refl _, leB_refl _⟩) (fun h => by cases h)

def qnewM (mss first : Int) : CcM := { newM 1 0 mss first with Kind := bif decide ((bif badN mss first then 2 else 0 : Int) = 0) then 2 else (newM 1 0 mss first).Kind, Epoch := bif decide ((bif badN mss first then 2 else 0 : Int) = 0) then -1 else (newM 1 0 mss first).Epoch }
theorem runc15 (mss first : Int) : runF (bbC [(14, S13)] fun _ => none) Try.f15 [.i64 mss, .i64 first] [] = ⟨true, .tup [.agg (ccCells (qnewM mss first)), .i64 (bif badN mss first then 2 else 0)], []⟩ := by kernel_rfl
def S15c : FSpec := fun args bxs => match args, bxs with | [.int .i64 mss, .int .i64 first], [] => some (true, .tup [.agg (ccCells (qnewM mss first)), .i64 (bif badN mss first then 2 else 0)], []) | _, _ => none
theorem hasc15 : Has 15 S15c := has_of (l := [(14, S13)]) (L := fun _ => none) (by simpa using has13) Try.func15 rfl (by kernel_rfl) (lok_none (by kernel_rfl)) (fun args bxs v bxs' h => by
  unfold S15c at h
  split at h <;> simp only [Option.some.injEq, Prod.mk.injEq, reduceCtorEq] at h
  obtain ⟨-, rfl, rfl⟩ := h
  exact ⟨Nat.le_of_ble_eq_true (by kernel_rfl), _, runc15 _ _, rfl, .refl _, leB_refl _⟩) (fun h => by cases h)

/-! ### the curve -/
def cvD (c : CcM) (t : Int) : Int := clampM (sumM t (IntKind.i64.wrap (0 - c.K))) (-1000000) 1000000
def cvA (c : CcM) (t : Int) : Int := max64 (cvD c t) (IntKind.i64.wrap (0 - cvD c t))
def cvV0 (c : CcM) (t : Int) : Int := byM (IntKind.i64.wrap (IntKind.i64.wrap (cvA c t * cvA c t) * cvA c t)) (IntKind.i64.wrap (4 * c.Mss)) 10000000000
def cvV (c : CcM) (t : Int) : Int := bif decide (cvD c t < 0) then IntKind.i64.wrap (0 - cvV0 c t) else cvV0 c t
def cvM (c : CcM) (t : Int) : Int := clampM (sumM c.Wmax (cvV c t)) 0 1073741824
abbrev Gc60 : List (Nat × FSpec) := [(29, S29c), (58, S27), (61, S61c), (62, S62c)]
theorem gc60 : ∀ p ∈ Gc60, Has p.1 p.2 := by
  intro p hp
  simp only [Gc60, List.mem_cons, List.not_mem_nil, or_false] at hp
  rcases hp with rfl | rfl | rfl | rfl
  · exact hasc29
  · exact has27
  · exact hasc61
  · exact hasc62
theorem runc60 (c : CcM) (t : Int) : runF (bbC Gc60 fun _ => none) Try.f60 [.agg (ccCells c), .i64 t] [] = bif !decide ((bif badQ c then 230 else 0 : Int) = 0) then ⟨true, .i64 0, []⟩ else ⟨true, .i64 (cvM c t), []⟩ := by kernel_rfl
def curM (c : CcM) (t : Int) : Int := bif badQ c then 0 else cvM c t
def S60c : FSpec := fun args bxs => match args, bxs with | [.agg cs, .int .i64 t], [] => (match decCcW cs with | some c => some (true, .i64 (curM c t), []) | none => none) | _, _ => none
theorem hasc60 : Has 60 S60c := has_of2 (l := Gc60) (L := fun _ => none) gc60 Try.func60 rfl (by kernel_rfl) (lok_none (by kernel_rfl)) (fun args bxs v bxs' h => by
  unfold S60c at h
  split at h <;> (try (cases h; done))
  rename_i cs t
  cases hd : decCcW cs with
  | none => rw [hd] at h; cases h
  | some c =>
    rw [hd] at h
    simp only [Option.some.injEq, Prod.mk.injEq] at h
    obtain ⟨-, rfl, rfl⟩ := h
    refine ⟨[.agg (ccCells c), .i64 t], [], leL_cons (leV_agg (decCcW_le hd)) (leL_refl _), leB_nil, Nat.le_of_ble_eq_true (by kernel_rfl), _, runc60 c t, ?_⟩
    rw [decE _ _ (by omega)]
    unfold curM
    cases badQ c <;> exact ⟨rfl, .refl _, leB_refl _⟩) (fun h => by cases h)

/-! ### begin, grow -/
def bgA (c : CcM) (now : Int) : CcM := { c with Epoch := now, Start := c.Cwnd, West := c.Cwnd, K := 0 }
def bgB (c : CcM) (now : Int) : CcM := { bgA c now with K := cbM (byM (IntKind.i64.wrap (c.Wmax - c.Cwnd)) 10000000000 (IntKind.i64.wrap (4 * c.Mss))) }
def bgC (c : CcM) (now : Int) : CcM := { bgA c now with Wmax := c.Cwnd }
abbrev Gc59 : List (Nat × FSpec) := [(62, S62c), (68, S68c)]
theorem gc59 : ∀ p ∈ Gc59, Has p.1 p.2 := by
  intro p hp
  simp only [Gc59, List.mem_cons, List.not_mem_nil, or_false] at hp
  rcases hp with rfl | rfl
  · exact hasc62
  · exact hasc68
theorem runc59 (c : CcM) (now : Int) : runF (bbC Gc59 fun _ => none) Try.f59 [.ptr 0 0, .i64 now] [ccCells c] = bif decide (c.Cwnd < c.Wmax) then ⟨true, .tup [], [ccCells (bgB c now)]⟩ else ⟨true, .tup [], [ccCells (bgC c now)]⟩ := by kernel_rfl
def bgM (c : CcM) (now : Int) : CcM := bif decide (c.Cwnd < c.Wmax) then bgB c now else bgC c now
theorem hasc59 : Has 59 (SI bgM) := has_of (l := Gc59) (L := fun _ => none) gc59 Try.func59 rfl (by kernel_rfl) (lok_none (by kernel_rfl)) (fun args bxs v bxs' h => by
  obtain ⟨c, n, rfl, rfl, rfl, rfl⟩ := SI_inv h
  refine ⟨Nat.le_of_ble_eq_true (by kernel_rfl), _, runc59 c n, ?_⟩
  unfold bgM
  cases decide (c.Cwnd < c.Wmax) <;> exact ⟨rfl, .refl _, leB_refl _⟩) (fun h => by cases h)

def gr0 (c : CcM) (now : Int) : CcM := CcM.mrg (decide (c.Epoch < 0)) (bgM c now) c
def grT (c : CcM) (now srtt : Int) : Int := IntKind.i64.wrap ((IntKind.i64.wrap (max64 0 (IntKind.i64.wrap (now - c.Epoch)) + srtt)).tdiv 1000)
def grW (c : CcM) (now srtt : Int) : Int := clampM (curM c (grT c now srtt)) c.Cwnd (IntKind.i64.wrap (c.Cwnd + IntKind.i64.wrap (c.Cwnd.tdiv 2)))
def gr1 (c : CcM) (n : Int) : CcM := { c with West := min64 1073741824 (sumM c.West (byM (IntKind.i64.wrap (529 * c.Mss)) n (IntKind.i64.wrap (1000 * c.Cwnd)))) }
def gr2 (c : CcM) (w n : Int) : CcM := { c with Cwnd := min64 1073741824 (max64 c.West (sumM c.Cwnd (byM (IntKind.i64.wrap (w - c.Cwnd)) n c.Cwnd))) }
def growM (c : CcM) (n now srtt : Int) : CcM := gr2 (gr1 (gr0 c now) n) (grW (gr0 c now) now srtt) n
abbrev Gc48 : List (Nat × FSpec) := [(59, SI bgM), (60, S60c), (58, S27), (61, S61c), (62, S62c)]
theorem gc48 : ∀ p ∈ Gc48, Has p.1 p.2 := by
  intro p hp
  simp only [Gc48, List.mem_cons, List.not_mem_nil, or_false] at hp
  rcases hp with rfl | rfl | rfl | rfl | rfl
  · exact hasc59
  · exact hasc60
  · exact has27
  · exact hasc61
  · exact hasc62
theorem runc48 (c : CcM) (n now srtt : Int) : runF (bbC Gc48 fun _ => none) Try.f48 [.ptr 0 0, .i64 n, .i64 now, .i64 srtt] [ccCells c] = ⟨true, .tup [], [ccCells (growM c n now srtt)]⟩ := by kernel_rfl
def S48c : FSpec := fun args bxs => match args, bxs with | [.ptr 0 0, .int .i64 n, .int .i64 now, .int .i64 srtt], [cs] => (match decCc cs with | some c => some (true, .tup [], [ccCells (growM c n now srtt)]) | none => none) | _, _ => none
theorem hasc48 : Has 48 S48c := has_of (l := Gc48) (L := fun _ => none) gc48 Try.func48 rfl (by kernel_rfl) (lok_none (by kernel_rfl)) (fun args bxs v bxs' h => by
  unfold S48c at h
  split at h <;> (try (cases h; done))
  rename_i n now srtt cs
  split at h <;> (try (cases h; done))
  rename_i c hc
  simp only [Option.some.injEq, Prod.mk.injEq] at h
  obtain ⟨-, rfl, rfl⟩ := h
  obtain rfl := decCc_eq hc
  exact ⟨Nat.le_of_ble_eq_true (by kernel_rfl), _, runc48 c n now srtt, rfl, .refl _, leB_refl _⟩) (fun h => by cases h)

/-! ### Acked, Loss, Timeout -/
def badT (n now srtt : Int) : Bool := bOr (bOr (bOr (bOr (!([n].all (okV 1073741824))) (decide (now < 0))) (decide (now > 1125899906842624))) (decide (srtt < 0))) (decide (srtt > 1125899906842624))
def slowM (c : CcM) (n : Int) : CcM := { c with Cwnd := min64 1073741824 (IntKind.i64.wrap (c.Cwnd + min64 n c.Mss)) }
abbrev Gc27 : List (Nat × FSpec) := [(29, S29c), (47, S47c), (48, S48c)]
theorem gc27 : ∀ p ∈ Gc27, Has p.1 p.2 := by
  intro p hp
  simp only [Gc27, List.mem_cons, List.not_mem_nil, or_false] at hp
  rcases hp with rfl | rfl | rfl
  · exact hasc29
  · exact hasc47
  · exact hasc48
def qaM (c : CcM) (n now srtt : Int) (idle : Bool) : CcM := CcM.mrg idle { c with Epoch := -1 } (CcM.mrg (decide (c.Cwnd < c.Ssthresh)) (slowM c n) (growM c n now srtt))
theorem runc27 (c : CcM) (n now srtt : Int) (idle : Bool) : runF (bbC Gc27 fun _ => none) Try.f27 [.agg (ccCells c), .i64 n, .i64 now, .i64 srtt, .bool idle] [] =
    bif !decide ((bif badQ c then 230 else 0 : Int) = 0) then ⟨true, .tup [.agg ccZcells, .i64 (bif badQ c then 230 else 0)], []⟩ else
    bif badT n now srtt then ⟨true, .tup [.agg ccZcells, .i64 2], []⟩ else ⟨true, .tup [.agg (ccCells (qaM c n now srtt idle)), .i64 0], []⟩ := by kernel_rfl

end Go.Proofs

/-
  The cc seat: cubic, on; the three behind one face.
-/
namespace Go.Proofs
open Go Go.Im

/-- what a function leaves of a controller, and its error -/
def q27 (c : CcM) (n now srtt : Int) (idle : Bool) : CcM := bif badQ c then ccZ else bif badT n now srtt then ccZ else qaM c n now srtt idle
def e27 (c : CcM) (n now srtt : Int) : Int := bif badQ c then 230 else bif badT n now srtt then 2 else 0
def S27c : FSpec := fun args bxs => match args, bxs with
  | [.agg cs, .int .i64 n, .int .i64 now, .int .i64 srtt, .bool idle], [] => (match decCcW cs with | some c => some (true, .tup [.agg (ccCells (q27 c n now srtt idle)), .i64 (e27 c n now srtt)], []) | none => none)
  | _, _ => none
theorem hasc27 : Has 27 S27c := has_of2 (l := Gc27) (L := fun _ => none) gc27 Try.func27 rfl (by kernel_rfl) (lok_none (by kernel_rfl)) (fun args bxs v bxs' h => by
  unfold S27c at h
  split at h <;> (try (cases h; done))
  rename_i cs n now srtt idle
  cases hd : decCcW cs with
  | none => rw [hd] at h; cases h
  | some c =>
    rw [hd] at h
    simp only [Option.some.injEq, Prod.mk.injEq] at h
    obtain ⟨-, rfl, rfl⟩ := h
    refine ⟨[.agg (ccCells c), .i64 n, .i64 now, .i64 srtt, .bool idle], [], leL_cons (leV_agg (decCcW_le hd)) (leL_refl _), leB_nil, Nat.le_of_ble_eq_true (by kernel_rfl), _, runc27 c n now srtt idle, ?_⟩
    rw [decE _ _ (by omega)]
    unfold q27 e27
    cases badQ c <;> cases badT n now srtt
    · exact ⟨rfl, .refl _, leB_refl _⟩
    all_goals exact ⟨rfl, leV_tup (leL_cons (leV_agg leZ) (leL_refl _)), leB_refl _⟩) (fun h => by cases h)

def fallM (c : CcM) : CcM := { c with Wmax := bif decide (c.Cwnd < c.Wmax) then IntKind.i64.wrap ((IntKind.i64.wrap (17 * c.Cwnd)).tdiv 20) else c.Cwnd, Ssthresh := max64 (IntKind.i64.wrap (2 * c.Mss)) (IntKind.i64.wrap ((IntKind.i64.wrap (7 * c.Cwnd)).tdiv 10)), Epoch := -1, Acc := 0 }
def shutM (c : CcM) : CcM := { fallM c with Cwnd := c.Mss }
/-- a method -/
def S0 (out : CcM → CcM) : FSpec := fun args bxs => match args, bxs with
  | [.ptr 0 0], [cs] => (match decCc cs with | some c => some (true, .tup [], [ccCells (out c)]) | none => none)
  | _, _ => none
theorem S0_inv {out : CcM → CcM} {args : List PVal} {bxs : List (List PVal)} {v : PVal} {bxs' : List (List PVal)} (h : S0 out args bxs = some (true, v, bxs')) :
    ∃ c, args = [.ptr 0 0] ∧ bxs = [ccCells c] ∧ v = .tup [] ∧ bxs' = [ccCells (out c)] := by
  unfold S0 at h
  split at h <;> (try (cases h; done))
  rename_i cs
  split at h <;> (try (cases h; done))
  rename_i c hc
  simp only [Option.some.injEq, Prod.mk.injEq] at h
  obtain ⟨-, rfl, rfl⟩ := h
  exact ⟨c, rfl, by rw [decCc_eq hc], rfl, rfl⟩
theorem runc36 (c : CcM) : runF (bbC [] fun _ => none) Try.f36 [.ptr 0 0] [ccCells c] = ⟨true, .tup [], [ccCells (fallM c)]⟩ := by kernel_rfl
theorem hasc36 : Has 36 (S0 fallM) := has_of (l := []) (L := fun _ => none) (by simp) Try.func36 rfl (by kernel_rfl) (lok_none (by kernel_rfl)) (fun args bxs v bxs' h => by
  obtain ⟨c, rfl, rfl, rfl, rfl⟩ := S0_inv h
  exact ⟨Nat.le_of_ble_eq_true (by kernel_rfl), _, runc36 c, rfl, .refl _, leB_refl _⟩) (fun h => by cases h)
theorem runc37 (c : CcM) : runF (bbC [(36, S0 fallM)] fun _ => none) Try.f37 [.ptr 0 0] [ccCells c] = ⟨true, .tup [], [ccCells (shutM c)]⟩ := by kernel_rfl
theorem hasc37 : Has 37 (S0 shutM) := has_of (l := [(36, S0 fallM)]) (L := fun _ => none) (by simpa using hasc36) Try.func37 rfl (by kernel_rfl) (lok_none (by kernel_rfl)) (fun args bxs v bxs' h => by
  obtain ⟨c, rfl, rfl, rfl, rfl⟩ := S0_inv h
  exact ⟨Nat.le_of_ble_eq_true (by kernel_rfl), _, runc37 c, rfl, .refl _, leB_refl _⟩) (fun h => by cases h)

abbrev Gc35 : List (Nat × FSpec) := [(29, S29c), (47, S47c), (36, S0 fallM), (37, S0 shutM)]
theorem gc35 : ∀ p ∈ Gc35, Has p.1 p.2 := by
  intro p hp
  simp only [Gc35, List.mem_cons, List.not_mem_nil, or_false] at hp
  rcases hp with rfl | rfl | rfl | rfl
  · exact hasc29
  · exact hasc47
  · exact hasc36
  · exact hasc37
theorem runc35a (c : CcM) (n : Int) : runF (bbC Gc35 fun _ => none) Try.f35 [.agg (ccCells c), .i64 n, .func 36 []] [] =
    bif !decide ((bif badQ c then 230 else 0 : Int) = 0) then ⟨true, .tup [.agg ccZcells, .i64 230], []⟩ else bif !([n].all (okV 1073741824)) then ⟨true, .tup [.agg ccZcells, .i64 2], []⟩ else ⟨true, .tup [.agg (ccCells (fallM c)), .i64 0], []⟩ := by kernel_rfl
theorem runc35b (c : CcM) (n : Int) : runF (bbC Gc35 fun _ => none) Try.f35 [.agg (ccCells c), .i64 n, .func 37 []] [] =
    bif !decide ((bif badQ c then 230 else 0 : Int) = 0) then ⟨true, .tup [.agg ccZcells, .i64 230], []⟩ else bif !([n].all (okV 1073741824)) then ⟨true, .tup [.agg ccZcells, .i64 2], []⟩ else ⟨true, .tup [.agg (ccCells (shutM c)), .i64 0], []⟩ := by kernel_rfl
def mvM (c : CcM) (n : Int) (d : CcM) : CcM := bif badQ c then ccZ else bif !([n].all (okV 1073741824)) then ccZ else d
def mvE (c : CcM) (n : Int) : Int := bif badQ c then 230 else bif !([n].all (okV 1073741824)) then 2 else 0
def S35c : FSpec := fun args bxs => match args, bxs with
  | [.agg cs, .int .i64 n, .func 36 []], [] => (match decCcW cs with | some c => some (true, .tup [.agg (ccCells (mvM c n (fallM c))), .i64 (mvE c n)], []) | none => none)
  | [.agg cs, .int .i64 n, .func 37 []], [] => (match decCcW cs with | some c => some (true, .tup [.agg (ccCells (mvM c n (shutM c))), .i64 (mvE c n)], []) | none => none)
  | _, _ => none
theorem hasc35 : Has 35 S35c := has_of2 (l := Gc35) (L := fun _ => none) gc35 Try.func35 rfl (by kernel_rfl) (lok_none (by kernel_rfl)) (fun args bxs v bxs' h => by
  unfold S35c at h
  split at h <;> (try (cases h; done))
  · rename_i cs n
    cases hd : decCcW cs with
    | none => rw [hd] at h; cases h
    | some c =>
      rw [hd] at h
      simp only [Option.some.injEq, Prod.mk.injEq] at h
      obtain ⟨-, rfl, rfl⟩ := h
      refine ⟨[.agg (ccCells c), .i64 n, .func 36 []], [], leL_cons (leV_agg (decCcW_le hd)) (leL_refl _), leB_nil, Nat.le_of_ble_eq_true (by kernel_rfl), _, runc35a c n, ?_⟩
      rw [decE _ _ (by omega)]
      unfold mvM mvE
      cases badQ c <;> cases (!([n].all (okV 1073741824)))
      · exact ⟨rfl, .refl _, leB_refl _⟩
      all_goals exact ⟨rfl, leV_tup (leL_cons (leV_agg leZ) (leL_refl _)), leB_refl _⟩
  · rename_i cs n
    cases hd : decCcW cs with
    | none => rw [hd] at h; cases h
    | some c =>
      rw [hd] at h
      simp only [Option.some.injEq, Prod.mk.injEq] at h
      obtain ⟨-, rfl, rfl⟩ := h
      refine ⟨[.agg (ccCells c), .i64 n, .func 37 []], [], leL_cons (leV_agg (decCcW_le hd)) (leL_refl _), leB_nil, Nat.le_of_ble_eq_true (by kernel_rfl), _, runc35b c n, ?_⟩
      rw [decE _ _ (by omega)]
      unfold mvM mvE
      cases badQ c <;> cases (!([n].all (okV 1073741824)))
      · exact ⟨rfl, .refl _, leB_refl _⟩
      all_goals exact ⟨rfl, leV_tup (leL_cons (leV_agg leZ) (leL_refl _)), leB_refl _⟩) (fun h => by cases h)
def qLoss (c : CcM) (n : Int) : CcM := mvM c n (fallM c)
def qTo (c : CcM) (n : Int) : CcM := mvM c n (shutM c)
theorem runc20 (c : CcM) (n : Int) : runF (bbC [(35, S35c)] fun _ => none) Try.f20 [.agg (ccCells c), .i64 n] [] = ⟨true, .tup [.agg (ccCells (qLoss c n)), .i64 (mvE c n)], []⟩ := by kernel_rfl
theorem hasc20 : Has 20 (SN qLoss mvE) := has_of2 (l := [(35, S35c)]) (L := fun _ => none) (by simpa using hasc35) Try.func20 rfl (by kernel_rfl) (lok_none (by kernel_rfl)) (fun args bxs v bxs' h => by
  obtain ⟨cs, n, c, rfl, rfl, hd, rfl, rfl⟩ := SN_inv h
  exact ⟨[.agg (ccCells c), .i64 n], [], leL_cons (leV_agg (decCcW_le hd)) (leL_refl _), leB_nil, Nat.le_of_ble_eq_true (by kernel_rfl), _, runc20 c n, rfl, .refl _, leB_refl _⟩) (fun h => by cases h)
theorem runc22 (c : CcM) (n : Int) : runF (bbC [(35, S35c)] fun _ => none) Try.f22 [.agg (ccCells c), .i64 n] [] = ⟨true, .tup [.agg (ccCells (qTo c n)), .i64 (mvE c n)], []⟩ := by kernel_rfl
theorem hasc22 : Has 22 (SN qTo mvE) := has_of2 (l := [(35, S35c)]) (L := fun _ => none) (by simpa using hasc35) Try.func22 rfl (by kernel_rfl) (lok_none (by kernel_rfl)) (fun args bxs v bxs' h => by
  obtain ⟨cs, n, c, rfl, rfl, hd, rfl, rfl⟩ := SN_inv h
  exact ⟨[.agg (ccCells c), .i64 n], [], leL_cons (leV_agg (decCcW_le hd)) (leL_refl _), leB_nil, Nat.le_of_ble_eq_true (by kernel_rfl), _, runc22 c n, rfl, .refl _, leB_refl _⟩) (fun h => by cases h)

/-! ### cc: New, Check, asked -/
abbrev Gc4 : List (Nat × FSpec) := [(14, S13), (15, S15c), (16, S6)]
theorem gc4 : ∀ p ∈ Gc4, Has p.1 p.2 := by
  intro p hp
  simp only [Gc4, List.mem_cons, List.not_mem_nil, or_false] at hp
  rcases hp with rfl | rfl | rfl
  · exact has13
  · exact hasc15
  · exact has6
def cnE (mss first : Int) : Int := bif badN mss first then 2 else 0
theorem runc4 (k mss first : Int) : runF (bbC Gc4 fun _ => none) Try.f4 [.i64 k, .i64 mss, .i64 first] [] =
    bif decide (k = 1) then ⟨true, .tup [.agg (ccCells (newM 1 0 mss first)), .i64 (cnE mss first)], []⟩ else
    bif decide (k = 2) then ⟨true, .tup [.agg (ccCells (qnewM mss first)), .i64 (cnE mss first)], []⟩ else
    bif decide (k = 3) then ⟨true, .tup [.agg (ccCells (bnewM mss first)), .i64 (cnE mss first)], []⟩ else ⟨true, .tup [.agg ccZcells, .i64 2], []⟩ := by kernel_rfl
def cnewM (k mss first : Int) : CcM := bif decide (k = 1) then newM 1 0 mss first else bif decide (k = 2) then qnewM mss first else bif decide (k = 3) then bnewM mss first else ccZ
def cnewE (k mss first : Int) : Int := bif decide (k = 1) then cnE mss first else bif decide (k = 2) then cnE mss first else bif decide (k = 3) then cnE mss first else 2
def S4c : FSpec := fun args bxs => match args, bxs with | [.int .i64 k, .int .i64 mss, .int .i64 first], [] => some (true, .tup [.agg (ccCells (cnewM k mss first)), .i64 (cnewE k mss first)], []) | _, _ => none
theorem hasc4 : Has 4 S4c := has_of (l := Gc4) (L := fun _ => none) gc4 Try.func4 rfl (by kernel_rfl) (lok_none (by kernel_rfl)) (fun args bxs v bxs' h => by
  unfold S4c at h
  split at h <;> simp only [Option.some.injEq, Prod.mk.injEq, reduceCtorEq] at h
  obtain ⟨-, rfl, rfl⟩ := h
  rename_i k mss first
  refine ⟨Nat.le_of_ble_eq_true (by kernel_rfl), _, runc4 k mss first, ?_⟩
  unfold cnewM cnewE
  cases decide (k = 1) <;> cases decide (k = 2) <;> cases decide (k = 3) <;> first | exact ⟨rfl, .refl _, leB_refl _⟩ | exact ⟨rfl, leV_tup (leL_cons (leV_agg leZ) (leL_refl _)), leB_refl _⟩) (fun h => by cases h)

def badA (c : CcM) : Bool := bif decide (c.Kind = 1) then badR c else bif decide (c.Kind = 2) then badQ c else badC c
abbrev Gc12 : List (Nat × FSpec) := [(28, S28c), (29, S29c), (30, S10)]
theorem gc12 : ∀ p ∈ Gc12, Has p.1 p.2 := by
  intro p hp
  simp only [Gc12, List.mem_cons, List.not_mem_nil, or_false] at hp
  rcases hp with rfl | rfl | rfl
  · exact hasc28
  · exact hasc29
  · exact has10
theorem runc12 (c : CcM) : runF (bbC Gc12 fun _ => none) Try.f12 [.agg (ccCells c)] [] =
    bif decide (c.Kind = 1) then ⟨true, .i64 (bif badR c then 230 else 0), []⟩ else bif decide (c.Kind = 2) then ⟨true, .i64 (bif badQ c then 230 else 0), []⟩ else ⟨andB true (lenOk c.Bw.length), .i64 (bif badC c then 230 else 0), []⟩ := by kernel_rfl
def S12c : FSpec := fun args bxs => match args, bxs with | [.agg cs], [] => (match decCcW cs with | some c => some (lenOk c.Bw.length, .i64 (bif badA c then 230 else 0), []) | none => none) | _, _ => none
theorem hasc12 : Has 12 S12c := has_of2 (l := Gc12) (L := fun _ => none) gc12 Try.func12 rfl (by kernel_rfl) (lok_none (by kernel_rfl)) (fun args bxs v bxs' h => by
  unfold S12c at h
  split at h <;> (try (cases h; done))
  rename_i cs
  cases hd : decCcW cs with
  | none => rw [hd] at h; cases h
  | some c =>
    rw [hd] at h
    simp only [Option.some.injEq, Prod.mk.injEq] at h
    obtain ⟨hl, rfl, rfl⟩ := h
    refine ⟨[.agg (ccCells c)], [], leL_cons (leV_agg (decCcW_le hd)) leL_nil, leB_nil, Nat.le_of_ble_eq_true (by kernel_rfl), _, runc12 c, ?_⟩
    rw [hl]
    unfold badA
    cases decide (c.Kind = 1) <;> cases decide (c.Kind = 2) <;> exact ⟨rfl, .refl _, leB_refl _⟩) (fun h => by cases h)
theorem runc17 (c : CcM) (b : Bool) : runF (bbC [(12, S12c)] fun _ => none) Try.f17 [.agg (ccCells c), .bool b] [] =
    bif !decide ((bif badA c then 230 else 0 : Int) = 0) then ⟨andB true (lenOk c.Bw.length), .i64 (bif badA c then 230 else 0), []⟩ else bif !b then ⟨andB true (lenOk c.Bw.length), .i64 2, []⟩ else ⟨andB true (lenOk c.Bw.length), .i64 0, []⟩ := by kernel_rfl
def askE (c : CcM) (b : Bool) : Int := bif badA c then 230 else bif !b then 2 else 0
def S17c : FSpec := fun args bxs => match args, bxs with | [.agg cs, .bool b], [] => (match decCcW cs with | some c => some (lenOk c.Bw.length, .i64 (askE c b), []) | none => none) | _, _ => none
theorem hasc17 : Has 17 S17c := has_of2 (l := [(12, S12c)]) (L := fun _ => none) (by simpa using hasc12) Try.func17 rfl (by kernel_rfl) (lok_none (by kernel_rfl)) (fun args bxs v bxs' h => by
  unfold S17c at h
  split at h <;> (try (cases h; done))
  rename_i cs b
  cases hd : decCcW cs with
  | none => rw [hd] at h; cases h
  | some c =>
    rw [hd] at h
    simp only [Option.some.injEq, Prod.mk.injEq] at h
    obtain ⟨hl, rfl, rfl⟩ := h
    refine ⟨[.agg (ccCells c), .bool b], [], leL_cons (leV_agg (decCcW_le hd)) (leL_refl _), leB_nil, Nat.le_of_ble_eq_true (by kernel_rfl), _, runc17 c b, ?_⟩
    rw [decE _ _ (by omega), hl]
    unfold askE
    cases badA c <;> cases b <;> exact ⟨rfl, .refl _, leB_refl _⟩) (fun h => by cases h)

end Go.Proofs
