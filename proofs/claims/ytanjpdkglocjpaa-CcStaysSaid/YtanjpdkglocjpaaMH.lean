/-
  The bbr seat: bandwidth, product, probe, entries.
-/
import Derived.Test.YtanjpdkglocjpaaMG

namespace Go.Proofs
open Go Go.Im

def S23 : FSpec := fun args bxs => match args, bxs with | [.ptr 0 0], [cs] => (match decCc cs with | some c => some (true, .i64 (bestV c.Bw), [cs]) | none => none) | _, _ => none
theorem has23 : Has 52 S23 := has_of (l := [(64, S29)]) (L := fun _ => none) (by simpa using has29) Try.func52 rfl (by kernel_rfl) (lok_none (by kernel_rfl)) (fun args bxs v bxs' h => by
  unfold S23 at h
  split at h <;> (try (cases h; done))
  rename_i cs
  cases hd : decCc cs with
  | none => rw [hd] at h; cases h
  | some c =>
    rw [hd] at h
    simp only [Option.some.injEq, Prod.mk.injEq] at h
    obtain ⟨-, rfl, rfl⟩ := h
    obtain rfl := decCc_eq hd
    exact ⟨Nat.le_of_ble_eq_true (by kernel_rfl), _, run23 c, rfl, .refl _, leB_refl _⟩) (fun _ args bxs ok v bxs' h => by
  unfold S23 at h
  split at h <;> (try (cases h; done))
  split at h <;> cases h
  rfl)

def productM (c : CcM) : Int := if mdV (bestV c.Bw) c.MinRtt 1000000 < 1073741824 then mdV (bestV c.Bw) c.MinRtt 1000000 else 1073741824
abbrev G22 : List (Nat × FSpec) := [(52, S23), (33, S28)]
theorem g22 : ∀ p ∈ G22, Has p.1 p.2 := by
  intro p hp
  simp only [G22, List.mem_cons, List.not_mem_nil, or_false] at hp
  rcases hp with rfl | rfl
  · exact has23
  · exact has28
theorem runf22 (c : CcM) : runF (bbC G22 fun _ => none) Try.f56 [.ptr 0 0] [ccCells c] = ⟨true, .i64 (productM c), [ccCells c]⟩ := by kernel_rfl
def S22 : FSpec := fun args bxs => match args, bxs with | [.ptr 0 0], [cs] => (match decCc cs with | some c => some (true, .i64 (productM c), [cs]) | none => none) | _, _ => none
theorem has22 : Has 56 S22 := has_of (l := G22) (L := fun _ => none) g22 Try.func56 rfl (by kernel_rfl) (lok_none (by kernel_rfl)) (fun args bxs v bxs' h => by
  unfold S22 at h
  split at h <;> (try (cases h; done))
  rename_i cs
  cases hd : decCc cs with
  | none => rw [hd] at h; cases h
  | some c =>
    rw [hd] at h
    simp only [Option.some.injEq, Prod.mk.injEq] at h
    obtain ⟨-, rfl, rfl⟩ := h
    obtain rfl := decCc_eq hd
    exact ⟨Nat.le_of_ble_eq_true (by kernel_rfl), _, runf22 c, rfl, .refl _, leB_refl _⟩) (fun _ args bxs ok v bxs' h => by
  unfold S22 at h
  split at h <;> (try (cases h; done))
  split at h <;> cases h
  rfl)

def probeM (c : CcM) (now : Int) : CcM := { c with Mode := 3, Phase := 2, PhaseAt := now }
def S26 : FSpec := fun args bxs => match args, bxs with | [.ptr 0 0, .int .i64 now], [cs] => (match decCc cs with | some c => some (true, .tup [], [ccCells (probeM c now)]) | none => none) | _, _ => none
theorem has26 : Has 57 S26 := has_of (l := []) (L := fun _ => none) (by simp) Try.func57 rfl (by kernel_rfl) (lok_none (by kernel_rfl)) (fun args bxs v bxs' h => by
  unfold S26 at h
  split at h <;> (try (cases h; done))
  rename_i now cs
  cases hd : decCc cs with
  | none => rw [hd] at h; cases h
  | some c =>
    rw [hd] at h
    simp only [Option.some.injEq, Prod.mk.injEq] at h
    obtain ⟨-, rfl, rfl⟩ := h
    obtain rfl := decCc_eq hd
    exact ⟨Nat.le_of_ble_eq_true (by kernel_rfl), _, run26 c now, rfl, .refl _, leB_refl _⟩) (fun h => by cases h)

/-! ### entries -/
def bad24 (c : CcM) (e : Entry) : Bool := bif decide (e.V > 1099511627776) then true else decide (e.At > c.Round)
abbrev T24 (l : List Entry) (n i : Int) : List (Nat × PVal) := [(0, .ptr 0 0), (16, .slice .entry false l), (17, .i64 n), (18, .i64 i)]
abbrev G24 : List (Nat × FSpec) := [(63, S30)]
theorem g24 : ∀ p ∈ G24, Has p.1 p.2 := by simpa [G24] using has30
theorem round24 (L : Nat → Option LSpec) (c : CcM) (ok : Bool) (l : List Entry) (n i : Int) (kn : St → Res) (kx : Nat → St → Res) (kr : St → Res) :
    exec (bbC G24 L) (loopAt Try.f51 0) (fun s => kn (norm [0, 16, 17, 18] [0] 241 s)) (fun i s => kx i (norm [2] [0] 241 s)) (fun s => kr (norm [2] [0] 241 s)) (headSt (T24 l n i) [(0, some (ccCells c))] 241 36 ok) =
    bif decide (i < n) then
      (bif bad24 c (l.getD i.toNat eZ) then kr (headSt [(2, .bool false)] [(0, some (ccCells c))] 241 36 (andB ok (c30 l i)))
      else kn (headSt (T24 l n (IntKind.i64.wrap (i + 1))) [(0, some (ccCells c))] 241 36 (andB ok (c30 l i))))
    else kx 0 (headSt [(2, .undef)] [(0, some (ccCells c))] 241 36 ok) := by kernel_rfl

end Go.Proofs

/-
  The bbr seat: entries, whole.
-/
namespace Go.Proofs
open Go Go.Im

abbrev B24 (c : CcM) : List (Nat × Option (List PVal)) := [(0, some (ccCells c))]
def good24 (c : CcM) (l : List Entry) (i : Nat) : Bool := !bad24 c (l.getD i eZ)
theorem c30_true {l : List Entry} {i : Nat} (hi : i < l.length) : c30 l i = true := by simp [c30]; omega
theorem loop24 (L : Nat → Option LSpec) (c : CcM) (l : List Entry) (kx : Nat → St → Res) (kr : St → Res) (hl : l.length ≤ 4294967296) :
    ∀ (d : Nat) (i : Nat) (n : Nat), i + d = l.length → d < n →
    loopN (bbC G24 L) (loopAt Try.f51 0) [0, 16, 17, 18] [0] [2] [0] 241 n (headSt (T24 l l.length i) (B24 c) 241 36 true) kx kr =
    bif (List.range' i d).all (good24 c l) then kx 0 (headSt [(2, .undef)] (B24 c) 241 36 true) else kr (headSt [(2, .bool false)] (B24 c) 241 36 true)
  | 0, i, n + 1, h1, h3 => by
    refine Eq.trans (round24 L c true l l.length i (fun s => loopN (bbC G24 L) (loopAt Try.f51 0) [0, 16, 17, 18] [0] [2] [0] 241 n s kx kr) kx kr) ?_
    have : decide ((i : Int) < l.length) = false := by simp; omega
    rw [this]; rfl
  | d + 1, i, n + 1, h1, h3 => by
    refine Eq.trans (round24 L c true l l.length i (fun s => loopN (bbC G24 L) (loopAt Try.f51 0) [0, 16, 17, 18] [0] [2] [0] 241 n s kx kr) kx kr) ?_
    have e1 : decide ((i : Int) < l.length) = true := by simp; omega
    have hw : IntKind.i64.wrap ((i : Int) + 1) = ((i + 1 : Nat) : Int) := by rw [wrap_i64 (by omega) (by omega)]; simp
    rw [e1, hw, c30_true (by omega)]
    have ih := loop24 L c l kx kr hl d (i + 1) n (by omega) (by omega)
    simp only [cond_true, andB, ih, List.range'_succ, List.all_cons, good24, Int.toNat_natCast]
    cases bad24 c (l.getD i eZ) <;> rfl
def F24 : LSpec := fun st kx kr => match st.tm 0, st.tm 16, st.tm 17, st.tm 18, Nat.beq st.n 36, Nat.beq st.nb 241, st.bx 0 with
  | .ptr 0 0, .slice .entry false l, .int .i64 n, .int .i64 i, true, true, some cs => (match decCc cs with
    | some c =>
      (let k := decide (i = 0) && (decide (n = l.length) && lenOk l.length)
       bif (List.range' 0 l.length).all (good24 c l) then kx 0 (headSt [(2, .undef)] (B24 c) 241 36 (andB st.ok k)) else kr (headSt [(2, .bool false)] (B24 c) 241 36 (andB st.ok k)))
    | none => Res.bad)
  | _, _, _, _, _, _, _ => Res.bad
theorem law24 (L : Nat → Option LSpec) : SoundL (bbC G24 L) (loopAt Try.f51 0) F24 := by
  refine soundL_of bb_mixed (bbEOk G24 L) (bbGOk L g24) [0, 16, 17, 18] [0] [2] [0] (fun st => match st.tm 16 with | .slice _ _ l => l.length + 1 | _ => 0) (lok_none (by kernel_rfl)) fun st kx kr hx hr hok => ?_
  unfold F24 at hok ⊢
  split at hok
  · rename_i l n i cs h0 h16 h17 h18 hn hnb hb0
    cases hd : decCc cs with
    | none => rw [hd] at hok; cases hok
    | some c =>
      obtain rfl := decCc_eq hd
      try simp only [hd] at hok
      try simp only [h0, h16, h17, h18, hn, hnb, hb0, hd]
      have hc : st.ok = true ∧ (decide (i = 0) && (decide (n = l.length) && lenOk l.length)) = true := by
        cases hb : (List.range' 0 l.length).all (good24 c l) <;> simp only [hb, cond_true, cond_false] at hok
        · exact andB_true (hr _ hok)
        · exact andB_true (hx _ _ hok)
      obtain ⟨hok1, hc⟩ := hc
      simp only [Bool.and_eq_true, decide_eq_true_eq] at hc
      obtain ⟨rfl, rfl, hlen⟩ := hc
      have hl : l.length ≤ 4294967296 := Nat.le_of_ble_eq_true hlen
      have e : norm [0, 16, 17, 18] [0] st.nb st = headSt (T24 l l.length (0 : Nat)) (B24 c) 241 36 true := by
        have := Nat.eq_of_beq_eq_true hn
        have := Nat.eq_of_beq_eq_true hnb
        simp [norm, headSt, keepT, keepB, h0, h16, h17, h18, hb0, *, lowT, low, low0, lowB, andB, ccCells, allLow]
        exact ⟨rfl, rfl⟩
      rw [e, Nat.eq_of_beq_eq_true hnb, loop24 L c l kx kr hl l.length 0 _ (by simp) (Nat.lt_succ_self _)]
      simp [hok1, hlen, andB]
  · cases hok
def L24 : Nat → Option LSpec := fun i => match Nat.beq i 4 with | true => some F24 | false => none
def entriesM (c : CcM) : Bool := bif chk true c.Bw then (List.range' 0 c.Bw.length).all (good24 c c.Bw) else false
theorem run24 (c : CcM) : runF (bbC G24 L24) Try.f51 [.ptr 0 0] [ccCells c] =
    (let k := decide ((0 : Int) = 0) && (decide ((c.Bw.length : Int) = c.Bw.length) && lenOk c.Bw.length)
     bif !decide ((bif chk true c.Bw then 0 else 2 : Int) = 0) then ⟨andB true (lenOk c.Bw.length), .bool false, [ccCells c]⟩ else
     (bif (List.range' 0 c.Bw.length).all (good24 c c.Bw) then ⟨andB (andB true (lenOk c.Bw.length)) k, .bool true, [ccCells c]⟩ else ⟨andB (andB true (lenOk c.Bw.length)) k, .bool false, [ccCells c]⟩)) := by kernel_rfl
def S24 : FSpec := fun args bxs => match args, bxs with | [.ptr 0 0], [cs] => (match decCc cs with | some c => some (lenOk c.Bw.length, .bool (entriesM c), [cs]) | none => none) | _, _ => none
theorem has24 : Has 51 S24 := has_of (l := G24) (L := L24) g24 Try.func51 rfl (by kernel_rfl) (lok_one (b := loopAt Try.f51 0) (f := F24) (by kernel_rfl) (by kernel_rfl) (law24 L24)) (fun args bxs v bxs' h => by
  unfold S24 at h
  split at h <;> (try (cases h; done))
  rename_i cs
  cases hd : decCc cs with
  | none => rw [hd] at h; cases h
  | some c =>
    rw [hd] at h
    simp only [Option.some.injEq, Prod.mk.injEq] at h
    obtain ⟨hl, rfl, rfl⟩ := h
    obtain rfl := decCc_eq hd
    refine ⟨Nat.le_of_ble_eq_true (by kernel_rfl), _, run24 c, ?_⟩
    unfold entriesM
    cases hk : chk true c.Bw with
    | false => simp [andB, hl]; exact ⟨.refl _, leB_refl _⟩
    | true =>
      cases hg : (List.range' 0 c.Bw.length).all (good24 c c.Bw) <;> simp [andB, hl] <;> exact ⟨.refl _, leB_refl _⟩) (fun _ args bxs ok v bxs' h => by
  unfold S24 at h
  split at h <;> (try (cases h; done))
  split at h <;> cases h
  rfl)

end Go.Proofs

/-
  The bbr seat: Check.
-/
namespace Go.Proofs
open Go Go.Im

def bAnd (a b : Bool) : Bool := bif a then b else false
def bOr (a b : Bool) : Bool := bif a then true else b
def plainM (c : CcM) : Bool := bAnd (bAnd (bAnd (bAnd (bAnd (bAnd (decide (c.Kind = 3)) (decide (c.Mss ≥ 1))) (decide (c.Mss ≤ 65000))) (decide (c.Cwnd ≥ c.Mss))) (decide (c.Cwnd ≤ 1073741824))) (decide (c.Ssthresh = 1073741824))) (decide (c.Acc = 0))
def bareM (c : CcM) : Bool := bAnd (bAnd (bAnd (bAnd (decide (c.Wmax = 0)) (decide (c.Epoch = 0))) (decide (c.K = 0))) (decide (c.West = 0))) (decide (c.Start = 0))
def timesM (c : CcM) : Bool := [c.MinRtt, c.MinAt, c.NextAt, c.PhaseAt, c.DoneAt, c.Round].all (okV 1125899906842624)
def numbersM (c : CcM) : Bool := bAnd (bAnd (bAnd ([c.Full].all (okV 1099511627776)) ([c.FullN].all (okV 3))) ([c.Phase].all (okV 7))) ([c.Prior].all (okV 1073741824))
def sixM (c : CcM) : Bool := bOr (bOr (bOr (bOr (bOr (!plainM c) (!bareM c)) (!timesM c)) (!numbersM c)) (decide (c.Mode < 1))) (decide (c.Mode > 4))
def badC (c : CcM) : Bool := bOr (sixM c) (!entriesM c)
abbrev G10 : List (Nat × FSpec) := [(38, S14), (51, S24)]
theorem g10 : ∀ p ∈ G10, Has p.1 p.2 := by
  intro p hp
  simp only [G10, List.mem_cons, List.not_mem_nil, or_false] at hp
  rcases hp with rfl | rfl
  · exact has14
  · exact has24
theorem run10 (c : CcM) : runF (bbC G10 fun _ => none) Try.f30 [.agg (ccCells c)] [] =
    bif badC c then ⟨andB true (impB (!sixM c) (lenOk c.Bw.length)), .i64 230, []⟩ else ⟨andB true (impB (!sixM c) (lenOk c.Bw.length)), .i64 0, []⟩ := by kernel_rfl

end Go.Proofs

/-
  The bbr seat: Check and the two New, whole.
-/
namespace Go.Proofs
open Go Go.Im

def bwOf : PVal → Option (List Entry)
  | .nils => some []
  | .slice .entry _ l => some l
  | _ => none
def decCcW : List PVal → Option CcM
  | [.int .i64 a0, .int .i64 a1, .int .i64 a2, .int .i64 a3, .int .i64 a4, .int .i64 a5, .int .i64 a6, .int .i64 a7, .int .i64 a8, .int .i64 a9, .int .i64 a10, bw, .int .i64 a12, .int .i64 a13, .int .i64 a14, .int .i64 a15, .int .i64 a16, .int .i64 a17, .int .i64 a18, .int .i64 a19, .int .i64 a20, .int .i64 a21] =>
    (match bwOf bw with | some l => some ⟨a0, a1, a2, a3, a4, a5, a6, a7, a8, a9, a10, l, a12, a13, a14, a15, a16, a17, a18, a19, a20, a21⟩ | none => none)
  | _ => none
theorem bwOf_le {p : PVal} {l : List Entry} (h : bwOf p = some l) : LeV (.slice .entry false l) p := by
  unfold bwOf at h
  split at h
  · cases h; exact .nils _ _
  · cases h; exact .slice _ _ _ _ (by simp)
  · cases h
theorem decCcW_le {cs : List PVal} {c : CcM} (h : decCcW cs = some c) : LeL (ccCells c) cs := by
  unfold decCcW at h
  split at h
  · split at h
    · rename_i hb
      cases h
      refine leL_cons (.refl _) (leL_cons (.refl _) (leL_cons (.refl _) (leL_cons (.refl _) (leL_cons (.refl _) (leL_cons (.refl _) (leL_cons (.refl _) (leL_cons (.refl _) (leL_cons (.refl _) (leL_cons (.refl _) (leL_cons (.refl _) (leL_cons (bwOf_le hb) (leL_refl _))))))))))))
    · cases h
  · cases h

def S10 : FSpec := fun args bxs => match args, bxs with | [.agg cs], [] => (match decCcW cs with | some c => some (lenOk c.Bw.length, .i64 (bif badC c then 230 else 0), []) | none => none) | _, _ => none
theorem has10 : Has 30 S10 := has_of2 (l := G10) (L := fun _ => none) g10 Try.func30 rfl (by kernel_rfl) (lok_none (by kernel_rfl)) (fun args bxs v bxs' h => by
  unfold S10 at h
  split at h <;> (try (cases h; done))
  rename_i cs
  cases hd : decCcW cs with
  | none => rw [hd] at h; cases h
  | some c =>
    rw [hd] at h
    simp only [Option.some.injEq, Prod.mk.injEq] at h
    obtain ⟨hl, rfl, rfl⟩ := h
    refine ⟨[.agg (ccCells c)], [], leL_cons (leV_agg (decCcW_le hd)) leL_nil, leB_nil, Nat.le_of_ble_eq_true (by kernel_rfl), _, run10 c, ?_⟩
    cases badC c <;> simp [andB, hl, impB] <;> exact ⟨.refl _, leB_refl _⟩) (fun h => by cases h)

def badN (mss first : Int) : Bool := bOr (bOr (bOr (decide (mss < 1)) (decide (mss > 65000))) (decide (first < 1))) (decide (first > 100))
def ccZ : CcM := ⟨0, 0, 0, 0, 0, 0, 0, 0, 0, 0, 0, [], 0, 0, 0, 0, 0, 0, 0, 0, 0, 0⟩
def ccZcells : List PVal := [.i64 0, .i64 0, .i64 0, .i64 0, .i64 0, .i64 0, .i64 0, .i64 0, .i64 0, .i64 0, .i64 0, .nils, .i64 0, .i64 0, .i64 0, .i64 0, .i64 0, .i64 0, .i64 0, .i64 0, .i64 0, .i64 0]
def ccR (k m mss first : Int) : List PVal := [.i64 k, .i64 mss, .i64 (IntKind.i64.wrap (mss * first)), .i64 1073741824, .i64 0, .i64 0, .i64 0, .i64 0, .i64 0, .i64 0, .i64 m, .nils, .i64 0, .i64 0, .i64 0, .i64 0, .i64 0, .i64 0, .i64 0, .i64 0, .i64 0, .i64 0]
theorem run13 (mss first : Int) : runF (bbC [] fun _ => none) Try.f14 [.i64 mss, .i64 first] [] =
    bif badN mss first then ⟨true, .tup [.agg ccZcells, .i64 2], []⟩ else ⟨true, .tup [.agg (ccR 1 0 mss first), .i64 0], []⟩ := by kernel_rfl

def sCells (s : Sample) : List PVal := [.i64 s.Now, .i64 s.Acked, .i64 s.Rtt, .i64 s.Rate, .bool s.Idle, .i64 s.Given, .i64 s.Before, .i64 s.Flight]
def roundM (c : CcM) (s : Sample) : CcM := { c with NextAt := s.Given, Round := if IntKind.i64.wrap (c.Round + 1) < 1125899906842624 then IntKind.i64.wrap (c.Round + 1) else 1125899906842624 }
theorem run15 (c : CcM) (s : Sample) : runF (bbC [] fun _ => none) Try.f39 [.ptr 0 0, .agg (sCells s)] [ccCells c] =
    bif decide (s.Before < c.NextAt) then ⟨true, .bool false, [ccCells c]⟩ else ⟨true, .bool true, [ccCells (roundM c s)]⟩ := by kernel_rfl

end Go.Proofs

/-
  The bbr seat: what turns the controller.
-/
namespace Go.Proofs
open Go Go.Im

def lateM (c : CcM) (s : Sample) : Bool := bAnd (decide (c.MinRtt > 0)) (decide (IntKind.i64.wrap (s.Now - c.MinAt) > 10000000))
def updM (c : CcM) (s : Sample) : Bool := bAnd (decide (s.Rtt > 0)) (bOr (bOr (lateM c s) (decide (c.MinRtt = 0))) (decide (s.Rtt ≤ c.MinRtt)))
def shortM (c : CcM) (s : Sample) : CcM := { c with MinRtt := bif updM c s then s.Rtt else c.MinRtt, MinAt := bif updM c s then s.Now else c.MinAt }
theorem run17 (c : CcM) (s : Sample) : runF (bbC [] fun _ => none) Try.f41 [.ptr 0 0, .agg (sCells s)] [ccCells c] = ⟨true, .bool (lateM c s), [ccCells (shortM c s)]⟩ := by kernel_rfl

def CcM.mrg (b : Bool) (x y : CcM) : CcM :=
  ⟨bif b then x.Kind else y.Kind, bif b then x.Mss else y.Mss, bif b then x.Cwnd else y.Cwnd, bif b then x.Ssthresh else y.Ssthresh, bif b then x.Acc else y.Acc, bif b then x.Wmax else y.Wmax, bif b then x.Epoch else y.Epoch, bif b then x.K else y.K, bif b then x.West else y.West, bif b then x.Start else y.Start, bif b then x.Mode else y.Mode, bif b then x.Bw else y.Bw,
    bif b then x.MinRtt else y.MinRtt, bif b then x.MinAt else y.MinAt, bif b then x.Round else y.Round, bif b then x.NextAt else y.NextAt, bif b then x.Full else y.Full, bif b then x.FullN else y.FullN, bif b then x.Phase else y.Phase, bif b then x.PhaseAt else y.PhaseAt, bif b then x.DoneAt else y.DoneAt, bif b then x.Prior else y.Prior⟩
theorem CcM.mrg_eq (b : Bool) (x y : CcM) : CcM.mrg b x y = bif b then x else y := by cases b <;> rfl
def drainM (c : CcM) (s : Sample) : Bool := bAnd (decide (c.Mode = 2)) (decide (s.Flight ≤ productM c))
def turnM (c : CcM) (s : Sample) : Bool := bAnd (decide (c.Mode = 3)) (decide (IntKind.i64.wrap (s.Now - c.PhaseAt) > c.MinRtt))
def nextM (c : CcM) (s : Sample) : CcM := { c with Phase := bif turnM c s then (IntKind.i64.wrap (c.Phase + 1)).tmod 8 else c.Phase, PhaseAt := bif turnM c s then s.Now else c.PhaseAt }
def cycleM (c : CcM) (s : Sample) : CcM := CcM.mrg (drainM c s) (probeM c s.Now) (nextM c s)
theorem run19 (c : CcM) (s : Sample) : runF (bbC [(56, S22), (57, S26)] fun _ => none) Try.f43 [.ptr 0 0, .agg (sCells s)] [ccCells c] = ⟨true, .tup [], [ccCells (cycleM c s)]⟩ := by kernel_rfl

def fullN1 (c : CcM) : Int := if IntKind.i64.wrap (c.FullN + 1) < 3 then IntKind.i64.wrap (c.FullN + 1) else 3
def fullM (c : CcM) : CcM :=
  let b := bestV c.Bw
  let d := decide (b = 0)
  let e := decide (IntKind.i64.wrap (4 * b) ≥ IntKind.i64.wrap (5 * c.Full))
  { c with Full := bif d then c.Full else (bif e then b else c.Full), FullN := bif d then c.FullN else (bif e then 0 else fullN1 c), Mode := bif d then c.Mode else (bif e then c.Mode else (bif decide (fullN1 c = 3) then 2 else c.Mode)) }
theorem run18 (c : CcM) : runF (bbC [(52, S23)] fun _ => none) Try.f42 [.ptr 0 0] [ccCells c] = ⟨true, .tup [], [ccCells (fullM c)]⟩ := by kernel_rfl

def askA (c : CcM) : CcM := { c with Mode := 4, Prior := c.Cwnd, DoneAt := 0 }
def askC (c : CcM) (s : Sample) : CcM := { c with DoneAt := if IntKind.i64.wrap (s.Now + 200000) < 1125899906842624 then IntKind.i64.wrap (s.Now + 200000) else 1125899906842624 }
def askD (c : CcM) (s : Sample) : CcM := { c with MinAt := s.Now, Cwnd := if c.Prior > c.Cwnd then c.Prior else c.Cwnd, DoneAt := 0 }
def askM (c : CcM) (s : Sample) (late : Bool) : CcM :=
  CcM.mrg (bAnd late (!decide (c.Mode = 4))) (askA c)
    (CcM.mrg (!decide (c.Mode = 4)) c
      (CcM.mrg (bAnd (decide (c.DoneAt = 0)) (decide (s.Flight ≤ IntKind.i64.wrap (4 * c.Mss)))) (askC c s)
        (CcM.mrg (bAnd (decide (c.DoneAt > 0)) (decide (s.Now ≥ c.DoneAt)))
          (CcM.mrg (decide (c.FullN = 3)) (probeM (askD c s) s.Now) { askD c s with Mode := 1 }) c)))
theorem run20 (c : CcM) (s : Sample) (late : Bool) : runF (bbC [(57, S26)] fun _ => none) Try.f44 [.ptr 0 0, .agg (sCells s), .bool late] [ccCells c] = ⟨true, .tup [], [ccCells (askM c s late)]⟩ := by kernel_rfl

def targetM (c : CcM) : Int := if IntKind.i64.wrap (4 * c.Mss) > IntKind.i64.wrap (2 * productM c) then IntKind.i64.wrap (4 * c.Mss) else IntKind.i64.wrap (2 * productM c)
def winW (c : CcM) (s : Sample) : Int :=
  bif decide (c.Mode = 4) then (if IntKind.i64.wrap (4 * c.Mss) < c.Cwnd then IntKind.i64.wrap (4 * c.Mss) else c.Cwnd) else
  (bif decide (c.FullN = 3) then (if IntKind.i64.wrap (c.Cwnd + s.Acked) < targetM c then IntKind.i64.wrap (c.Cwnd + s.Acked) else targetM c) else
  (bif bOr (decide (c.Cwnd < targetM c)) (decide (bestV c.Bw = 0)) then IntKind.i64.wrap (c.Cwnd + s.Acked) else c.Cwnd))
def windowM (c : CcM) (s : Sample) : CcM := { c with Cwnd := clampM (winW c s) c.Mss 1073741824 }
theorem run21 (c : CcM) (s : Sample) : runF (bbC [(56, S22), (52, S23), (58, S27)] fun _ => none) Try.f45 [.ptr 0 0, .agg (sCells s)] [ccCells c] = ⟨true, .tup [], [ccCells (windowM c s)]⟩ := by kernel_rfl

end Go.Proofs

/-
  The bbr seat: the specs of what turns the controller.
-/
namespace Go.Proofs
open Go Go.Im

def decS : List PVal → Option Sample
  | [.int .i64 a, .int .i64 b, .int .i64 c, .int .i64 d, .bool e, .int .i64 f, .int .i64 g, .int .i64 h] => some ⟨a, b, c, d, e, f, g, h⟩
  | _ => none
theorem decS_eq {cs : List PVal} {s : Sample} (h : decS cs = some s) : cs = sCells s := by
  unfold decS at h
  split at h
  · cases h; rfl
  · cases h
/-- a method with a sample -/
def SM (val : CcM → Sample → PVal) (out : CcM → Sample → CcM) : FSpec := fun args bxs => match args, bxs with
  | [.ptr 0 0, .agg ss], [cs] => (match decCc cs, decS ss with | some c, some s => some (true, val c s, [ccCells (out c s)]) | _, _ => none)
  | _, _ => none
theorem SM_inv {val : CcM → Sample → PVal} {out : CcM → Sample → CcM} {args : List PVal} {bxs : List (List PVal)} {v : PVal} {bxs' : List (List PVal)} (h : SM val out args bxs = some (true, v, bxs')) :
    ∃ c s, args = [.ptr 0 0, .agg (sCells s)] ∧ bxs = [ccCells c] ∧ v = val c s ∧ bxs' = [ccCells (out c s)] := by
  unfold SM at h
  split at h <;> (try (cases h; done))
  rename_i ss cs
  split at h <;> (try (cases h; done))
  rename_i c s hc hs
  simp only [Option.some.injEq, Prod.mk.injEq] at h
  obtain ⟨-, rfl, rfl⟩ := h
  exact ⟨c, s, by rw [decS_eq hs], by rw [decCc_eq hc], rfl, rfl⟩

def S15 : FSpec := SM (fun c s => .bool (!decide (s.Before < c.NextAt))) (fun c s => CcM.mrg (decide (s.Before < c.NextAt)) c (roundM c s))
theorem has15 : Has 39 S15 := has_of (l := []) (L := fun _ => none) (by simp) Try.func39 rfl (by kernel_rfl) (lok_none (by kernel_rfl)) (fun args bxs v bxs' h => by
  obtain ⟨c, s, rfl, rfl, rfl, rfl⟩ := SM_inv h
  refine ⟨Nat.le_of_ble_eq_true (by kernel_rfl), _, run15 c s, ?_⟩
  rw [CcM.mrg_eq]
  cases decide (s.Before < c.NextAt) <;> exact ⟨rfl, .refl _, leB_refl _⟩) (fun h => by cases h)
def S17 : FSpec := SM (fun c s => .bool (lateM c s)) shortM
theorem has17 : Has 41 S17 := has_of (l := []) (L := fun _ => none) (by simp) Try.func41 rfl (by kernel_rfl) (lok_none (by kernel_rfl)) (fun args bxs v bxs' h => by
  obtain ⟨c, s, rfl, rfl, rfl, rfl⟩ := SM_inv h
  exact ⟨Nat.le_of_ble_eq_true (by kernel_rfl), _, run17 c s, rfl, .refl _, leB_refl _⟩) (fun h => by cases h)
abbrev G19 : List (Nat × FSpec) := [(56, S22), (57, S26)]
theorem g19 : ∀ p ∈ G19, Has p.1 p.2 := by
  intro p hp
  simp only [G19, List.mem_cons, List.not_mem_nil, or_false] at hp
  rcases hp with rfl | rfl
  · exact has22
  · exact has26
def S19 : FSpec := SM (fun _ _ => .tup []) cycleM
theorem has19 : Has 43 S19 := has_of (l := G19) (L := fun _ => none) g19 Try.func43 rfl (by kernel_rfl) (lok_none (by kernel_rfl)) (fun args bxs v bxs' h => by
  obtain ⟨c, s, rfl, rfl, rfl, rfl⟩ := SM_inv h
  exact ⟨Nat.le_of_ble_eq_true (by kernel_rfl), _, run19 c s, rfl, .refl _, leB_refl _⟩) (fun h => by cases h)
abbrev G21 : List (Nat × FSpec) := [(56, S22), (52, S23), (58, S27)]
theorem g21 : ∀ p ∈ G21, Has p.1 p.2 := by
  intro p hp
  simp only [G21, List.mem_cons, List.not_mem_nil, or_false] at hp
  rcases hp with rfl | rfl | rfl
  · exact has22
  · exact has23
  · exact has27
def S21 : FSpec := SM (fun _ _ => .tup []) windowM
theorem has21 : Has 45 S21 := has_of (l := G21) (L := fun _ => none) g21 Try.func45 rfl (by kernel_rfl) (lok_none (by kernel_rfl)) (fun args bxs v bxs' h => by
  obtain ⟨c, s, rfl, rfl, rfl, rfl⟩ := SM_inv h
  exact ⟨Nat.le_of_ble_eq_true (by kernel_rfl), _, run21 c s, rfl, .refl _, leB_refl _⟩) (fun h => by cases h)

def S18 : FSpec := fun args bxs => match args, bxs with | [.ptr 0 0], [cs] => (match decCc cs with | some c => some (true, .tup [], [ccCells (fullM c)]) | none => none) | _, _ => none
theorem has18 : Has 42 S18 := has_of (l := [(52, S23)]) (L := fun _ => none) (by simpa using has23) Try.func42 rfl (by kernel_rfl) (lok_none (by kernel_rfl)) (fun args bxs v bxs' h => by
  unfold S18 at h
  split at h <;> (try (cases h; done))
  rename_i cs
  cases hd : decCc cs with
  | none => rw [hd] at h; cases h
  | some c =>
    rw [hd] at h
    simp only [Option.some.injEq, Prod.mk.injEq] at h
    obtain ⟨-, rfl, rfl⟩ := h
    obtain rfl := decCc_eq hd
    exact ⟨Nat.le_of_ble_eq_true (by kernel_rfl), _, run18 c, rfl, .refl _, leB_refl _⟩) (fun h => by cases h)
def S20 : FSpec := fun args bxs => match args, bxs with
  | [.ptr 0 0, .agg ss, .bool late], [cs] => (match decCc cs, decS ss with | some c, some s => some (true, .tup [], [ccCells (askM c s late)]) | _, _ => none)
  | _, _ => none
theorem has20 : Has 44 S20 := has_of (l := [(57, S26)]) (L := fun _ => none) (by simpa using has26) Try.func44 rfl (by kernel_rfl) (lok_none (by kernel_rfl)) (fun args bxs v bxs' h => by
  unfold S20 at h
  split at h <;> (try (cases h; done))
  rename_i ss late cs
  split at h <;> (try (cases h; done))
  rename_i c s hc hs
  simp only [Option.some.injEq, Prod.mk.injEq] at h
  obtain ⟨-, rfl, rfl⟩ := h
  obtain rfl := decCc_eq hc
  obtain rfl := decS_eq hs
  exact ⟨Nat.le_of_ble_eq_true (by kernel_rfl), _, run20 c s late, rfl, .refl _, leB_refl _⟩) (fun h => by cases h)

end Go.Proofs

/-
  The bbr seat: the two New.
-/
namespace Go.Proofs
open Go Go.Im

def newM (k m mss first : Int) : CcM := bif badN mss first then ccZ else ⟨k, mss, IntKind.i64.wrap (mss * first), 1073741824, 0, 0, 0, 0, 0, 0, m, [], 0, 0, 0, 0, 0, 0, 0, 0, 0, 0⟩
theorem leZ : LeL (ccCells ccZ) ccZcells := by
  refine leL_cons (.refl _) (leL_cons (.refl _) (leL_cons (.refl _) (leL_cons (.refl _) (leL_cons (.refl _) (leL_cons (.refl _) (leL_cons (.refl _) (leL_cons (.refl _) (leL_cons (.refl _) (leL_cons (.refl _) (leL_cons (.refl _) (leL_cons (.nils _ _) (leL_refl _))))))))))))
theorem leR (k m mss first : Int) : LeL (ccCells ⟨k, mss, IntKind.i64.wrap (mss * first), 1073741824, 0, 0, 0, 0, 0, 0, m, [], 0, 0, 0, 0, 0, 0, 0, 0, 0, 0⟩) (ccR k m mss first) := by
  refine leL_cons (.refl _) (leL_cons (.refl _) (leL_cons (.refl _) (leL_cons (.refl _) (leL_cons (.refl _) (leL_cons (.refl _) (leL_cons (.refl _) (leL_cons (.refl _) (leL_cons (.refl _) (leL_cons (.refl _) (leL_cons (.refl _) (leL_cons (.nils _ _) (leL_refl _))))))))))))
def S13 : FSpec := fun args bxs => match args, bxs with | [.int .i64 mss, .int .i64 first], [] => some (true, .tup [.agg (ccCells (newM 1 0 mss first)), .i64 (bif badN mss first then 2 else 0)], []) | _, _ => none
theorem has13 : Has 14 S13 := has_of (l := []) (L := fun _ => none) (by simp) Try.func14 rfl (by kernel_rfl) (lok_none (by kernel_rfl)) (fun args bxs v bxs' h => by
  unfold S13 at h
  split at h <;> simp only [Option.some.injEq, Prod.mk.injEq, reduceCtorEq] at h
  obtain ⟨-, rfl, rfl⟩ := h
  rename_i mss first
  refine ⟨Nat.le_of_ble_eq_true (by kernel_rfl), _, run13 mss first, ?_⟩
  unfold newM
  cases badN mss first
  · simp only [cond_false]; exact ⟨trivial, leV_tup (leL_cons (leV_agg (leR 1 0 mss first)) (leL_refl _)), leB_refl _⟩
  · simp only [cond_true]; exact ⟨trivial, leV_tup (leL_cons (leV_agg leZ) (leL_refl _)), leB_refl _⟩) (fun h => by cases h)

theorem run6 (mss first : Int) : runF (bbC [(14, S13)] fun _ => none) Try.f16 [.i64 mss, .i64 first] [] =
    ⟨true, .tup [.agg (ccCells { newM 1 0 mss first with Kind := bif decide ((bif badN mss first then 2 else 0 : Int) = 0) then 3 else (newM 1 0 mss first).Kind, Mode := bif decide ((bif badN mss first then 2 else 0 : Int) = 0) then 1 else (newM 1 0 mss first).Mode }), .i64 (bif badN mss first then 2 else 0)], []⟩ := by kernel_rfl

end Go.Proofs

/-
  The bbr seat: filter.Put.
-/
namespace Go.Proofs
open Go Go.Im

abbrev G25 : List (Nat × FSpec) := [(63, S30), (66, S31), (67, S32)]
theorem g25 : ∀ p ∈ G25, Has p.1 p.2 := by
  intro p hp
  simp only [G25, List.mem_cons, List.not_mem_nil, or_false] at hp
  rcases hp with rfl | rfl | rfl
  · exact has30
  · exact has31
  · exact has32
/-- at the loops' heads: slots 0 l, 1 at, 2 v, 3 window, 4 most, 12 fresh's box (80), 13 from, 14 to -/
abbrev T25 (l : List Entry) (o m : Bool) (at_ v win fr to : Int) : List (Nat × PVal) := [(0, .slice .entry o l), (1, .i64 at_), (2, .i64 v), (3, .i64 win), (4, .bool m), (12, .ptr 80 0), (13, .i64 fr), (14, .i64 to)]
abbrev B25 (at_ v : Int) : List (Nat × Option (List PVal)) := [(80, some [.i64 at_, .i64 v])]
def late25 (l : List Entry) (at_ win fr to : Int) : Bool := bAnd (decide (fr < to)) (decide (IntKind.i64.wrap ((l.getD fr.toNat eZ).At + win) < at_))
def beat25 (l : List Entry) (m : Bool) (v fr to : Int) : Bool := bAnd (decide (fr < to)) (beatsM v (l.getD (IntKind.i64.wrap (to - 1)).toNat eZ).V m)
theorem round25a (L : Nat → Option LSpec) (l : List Entry) (o m ok : Bool) (at_ v win fr to : Int) (kn : St → Res) (kx : Nat → St → Res) (kr : St → Res) :
    exec (bbC G25 L) (loopAt Try.f55 0) (fun s => kn (norm [0, 1, 2, 3, 4, 12, 13, 14] [80] 672 s)) (fun i s => kx i (norm [0, 1, 2, 3, 4, 12, 13, 14] [80] 672 s)) (fun s => kr (norm [0, 1, 2, 3, 4, 12, 13, 14] [80] 672 s))
      (headSt (T25 l o m at_ v win fr to) (B25 at_ v) 672 91 ok) =
    bif late25 l at_ win fr to then kn (headSt (T25 l o m at_ v win (IntKind.i64.wrap (fr + 1)) to) (B25 at_ v) 672 91 (andB ok (impB (decide (fr < to)) (c30 l fr))))
    else kx 0 (headSt (T25 l o m at_ v win fr to) (B25 at_ v) 672 91 (andB ok (impB (decide (fr < to)) (c30 l fr)))) := by kernel_rfl
theorem round25b (L : Nat → Option LSpec) (l : List Entry) (o m ok : Bool) (at_ v win fr to : Int) (kn : St → Res) (kx : Nat → St → Res) (kr : St → Res) :
    exec (bbC G25 L) (loopAt Try.f55 1) (fun s => kn (norm [0, 1, 2, 3, 4, 12, 13, 14] [80] 672 s)) (fun i s => kx i (norm [0, 1, 2, 3, 4, 12, 13, 14] [80] 672 s)) (fun s => kr (norm [0, 1, 2, 3, 4, 12, 13, 14] [80] 672 s))
      (headSt (T25 l o m at_ v win fr to) (B25 at_ v) 672 91 ok) =
    bif beat25 l m v fr to then kn (headSt (T25 l o m at_ v win fr (IntKind.i64.wrap (to - 1))) (B25 at_ v) 672 91 (andB ok (impB (decide (fr < to)) (c30 l (IntKind.i64.wrap (to - 1))))))
    else kx 2 (headSt (T25 l o m at_ v win fr to) (B25 at_ v) 672 91 (andB ok (impB (decide (fr < to)) (c30 l (IntKind.i64.wrap (to - 1)))))) := by kernel_rfl

/-- from where entries are kept -/
def fromN (l : List Entry) (at_ win : Int) : Nat → Nat → Nat
  | 0, i => i
  | n + 1, i => bif late25 l at_ win i l.length then fromN l at_ win n (i + 1) else i
/-- to where entries are kept -/
def toN (l : List Entry) (m : Bool) (v : Int) (fr : Nat) : Nat → Nat → Nat
  | 0, i => i
  | n + 1, i => bif beat25 l m v fr i then toN l m v fr n (i - 1) else i
theorem k25a {l : List Entry} {i : Nat} : impB (decide ((i : Int) < l.length)) (c30 l i) = true := impB_of fun h => c30_true (by simpa using h)
theorem loop25a (L : Nat → Option LSpec) (l : List Entry) (o m : Bool) (at_ v win : Int) (kx : Nat → St → Res) (kr : St → Res) (hl : l.length ≤ 4294967296) : ∀ (n i : Nat), i ≤ l.length → l.length - i < n →
    loopN (bbC G25 L) (loopAt Try.f55 0) [0, 1, 2, 3, 4, 12, 13, 14] [80] [0, 1, 2, 3, 4, 12, 13, 14] [80] 672 n (headSt (T25 l o m at_ v win i l.length) (B25 at_ v) 672 91 true) kx kr =
    kx 0 (headSt (T25 l o m at_ v win (fromN l at_ win n i : Nat) l.length) (B25 at_ v) 672 91 true)
  | 0, i, _, h => by omega
  | n + 1, i, hi, h => by
    refine Eq.trans (round25a L l o m true at_ v win i l.length (fun s => loopN (bbC G25 L) (loopAt Try.f55 0) [0, 1, 2, 3, 4, 12, 13, 14] [80] [0, 1, 2, 3, 4, 12, 13, 14] [80] 672 n s kx kr) kx kr) ?_
    rw [k25a]
    simp only [fromN]
    cases hL : late25 l at_ win i l.length with
    | false => rfl
    | true =>
      have hlt : i < l.length := by
        unfold late25 bAnd at hL
        cases hd : decide ((i : Int) < l.length) with
        | false => rw [hd] at hL; cases hL
        | true => simpa using hd
      have hw : IntKind.i64.wrap ((i : Int) + 1) = ((i + 1 : Nat) : Int) := by rw [wrap_i64 (by omega) (by omega)]; simp
      rw [hw]
      exact loop25a L l o m at_ v win kx kr hl n (i + 1) hlt (by omega)

theorem k25b {l : List Entry} {fr i : Nat} (hi : i ≤ l.length) (hl : l.length ≤ 4294967296) : impB (decide ((fr : Int) < i)) (c30 l (IntKind.i64.wrap ((i : Int) - 1))) = true := impB_of fun h => by
  have h : (fr : Int) < i := by simpa using h
  rw [wrap_i64 (by omega) (by omega)]
  simp [c30]; omega
theorem loop25b (L : Nat → Option LSpec) (l : List Entry) (o m : Bool) (at_ v win : Int) (fr : Nat) (kx : Nat → St → Res) (kr : St → Res) (hl : l.length ≤ 4294967296) : ∀ (n i : Nat), i ≤ l.length → i < n →
    loopN (bbC G25 L) (loopAt Try.f55 1) [0, 1, 2, 3, 4, 12, 13, 14] [80] [0, 1, 2, 3, 4, 12, 13, 14] [80] 672 n (headSt (T25 l o m at_ v win fr i) (B25 at_ v) 672 91 true) kx kr =
    kx 2 (headSt (T25 l o m at_ v win fr (toN l m v fr n i : Nat)) (B25 at_ v) 672 91 true)
  | 0, i, _, h => by omega
  | n + 1, i, hi, h => by
    refine Eq.trans (round25b L l o m true at_ v win fr i (fun s => loopN (bbC G25 L) (loopAt Try.f55 1) [0, 1, 2, 3, 4, 12, 13, 14] [80] [0, 1, 2, 3, 4, 12, 13, 14] [80] 672 n s kx kr) kx kr) ?_
    rw [k25b hi hl]
    simp only [toN]
    cases hL : beat25 l m v fr i with
    | false => rfl
    | true =>
      have hlt : fr < i := by
        unfold beat25 bAnd at hL
        cases hd : decide ((fr : Int) < (i : Int)) with
        | false => rw [hd] at hL; cases hL
        | true => simpa using hd
      have hw : IntKind.i64.wrap ((i : Int) - 1) = ((i - 1 : Nat) : Int) := by rw [wrap_i64 (by omega) (by omega)]; omega
      rw [hw]
      exact loop25b L l o m at_ v win fr kx kr hl n (i - 1) (by omega) (by omega)

def F25a : LSpec := fun st kx kr => match st.tm 0, st.tm 1, st.tm 2, st.tm 3, st.tm 4, st.tm 12, st.tm 13, st.tm 14, Nat.beq st.n 91, Nat.beq st.nb 672, st.bx 80 with
  | .slice .entry o l, .int .i64 at_, .int .i64 v, .int .i64 win, .bool m, .ptr 80 0, .int .i64 fr, .int .i64 to, true, true, some [.int .i64 a2, .int .i64 v2] =>
    kx 0 (headSt (T25 l o m at_ v win (fromN l at_ win (l.length + 1) 0 : Nat) l.length) (B25 at_ v) 672 91 (andB st.ok (decide (fr = 0) && (decide (to = l.length) && (lenOk l.length && (decide (a2 = at_) && decide (v2 = v)))))))
  | _, _, _, _, _, _, _, _, _, _, _ => Res.bad
theorem law25a (L : Nat → Option LSpec) : SoundL (bbC G25 L) (loopAt Try.f55 0) F25a := by
  refine soundL_of bb_mixed (bbEOk G25 L) (bbGOk L g25) [0, 1, 2, 3, 4, 12, 13, 14] [80] [0, 1, 2, 3, 4, 12, 13, 14] [80] (fun st => match st.tm 0 with | .slice _ _ l => l.length + 1 | _ => 0) (lok_none (by kernel_rfl)) fun st kx kr hx hr hok => ?_
  unfold F25a at hok ⊢
  split at hok
  · rename_i o l at_ v win m fr to a2 v2 h0 h1 h2 h3 h4 h12 h13 h14 hn hnb hb
    try simp only [h0, h1, h2, h3, h4, h12, h13, h14, hn, hnb, hb]
    obtain ⟨hok1, hc⟩ := andB_true (hx _ _ hok)
    simp only [Bool.and_eq_true, decide_eq_true_eq] at hc
    obtain ⟨rfl, rfl, hlen, rfl, rfl⟩ := hc
    have hl : l.length ≤ 4294967296 := Nat.le_of_ble_eq_true hlen
    have e : norm [0, 1, 2, 3, 4, 12, 13, 14] [80] st.nb st = headSt (T25 l o m a2 v2 win (0 : Nat) l.length) (B25 a2 v2) 672 91 true := by
      have := Nat.eq_of_beq_eq_true hn
      have := Nat.eq_of_beq_eq_true hnb
      simp [norm, headSt, keepT, keepB, h0, h1, h2, h3, h4, h12, h13, h14, hb, *, lowT, low, low0, lowB, andB, allLow]
      rfl
    rw [e, Nat.eq_of_beq_eq_true hnb, loop25a L l o m a2 v2 win kx kr hl (l.length + 1) 0 (by omega) (by omega)]
    simp [hok1, hlen, andB]
  · cases hok

def F25b : LSpec := fun st kx kr => match st.tm 0, st.tm 1, st.tm 2, st.tm 3, st.tm 4, st.tm 12, st.tm 13, st.tm 14, Nat.beq st.n 91, Nat.beq st.nb 672, st.bx 80 with
  | .slice .entry o l, .int .i64 at_, .int .i64 v, .int .i64 win, .bool m, .ptr 80 0, .int .i64 fr, .int .i64 to, true, true, some [.int .i64 a2, .int .i64 v2] =>
    kx 2 (headSt (T25 l o m at_ v win fr (toN l m v fr.toNat (l.length + 1) l.length : Nat)) (B25 at_ v) 672 91 (andB st.ok (decide (0 ≤ fr) && (decide (to = l.length) && (lenOk l.length && (decide (a2 = at_) && decide (v2 = v)))))))
  | _, _, _, _, _, _, _, _, _, _, _ => Res.bad
theorem law25b (L : Nat → Option LSpec) : SoundL (bbC G25 L) (loopAt Try.f55 1) F25b := by
  refine soundL_of bb_mixed (bbEOk G25 L) (bbGOk L g25) [0, 1, 2, 3, 4, 12, 13, 14] [80] [0, 1, 2, 3, 4, 12, 13, 14] [80] (fun st => match st.tm 0 with | .slice _ _ l => l.length + 1 | _ => 0) (lok_none (by kernel_rfl)) fun st kx kr hx hr hok => ?_
  unfold F25b at hok ⊢
  split at hok
  · rename_i o l at_ v win m fr to a2 v2 h0 h1 h2 h3 h4 h12 h13 h14 hn hnb hb
    try simp only [h0, h1, h2, h3, h4, h12, h13, h14, hn, hnb, hb]
    obtain ⟨hok1, hc⟩ := andB_true (hx _ _ hok)
    simp only [Bool.and_eq_true, decide_eq_true_eq] at hc
    obtain ⟨hfr, rfl, hlen, rfl, rfl⟩ := hc
    obtain ⟨f, rfl⟩ := Int.eq_ofNat_of_zero_le hfr
    have hl : l.length ≤ 4294967296 := Nat.le_of_ble_eq_true hlen
    have e : norm [0, 1, 2, 3, 4, 12, 13, 14] [80] st.nb st = headSt (T25 l o m a2 v2 win f l.length) (B25 a2 v2) 672 91 true := by
      have := Nat.eq_of_beq_eq_true hn
      have := Nat.eq_of_beq_eq_true hnb
      simp [norm, headSt, keepT, keepB, h0, h1, h2, h3, h4, h12, h13, h14, hb, *, lowT, low, low0, lowB, andB, allLow]
      rfl
    rw [e, Nat.eq_of_beq_eq_true hnb, loop25b L l o m a2 v2 win f kx kr hl (l.length + 1) l.length (by omega) (by omega)]
    simp [hok1, hlen, andB]
  · cases hok

end Go.Proofs

/-
  The bbr seat: filter.Put, whole.
-/
namespace Go.Proofs
open Go Go.Im

def L25 : Nat → Option LSpec := fun i => match Nat.beq i 5, Nat.beq i 7 with | true, _ => some F25a | _, true => some F25b | _, _ => none
def bad25a (l : List Entry) (m : Bool) (at_ v win : Int) : Bool := bOr (bOr (!decide ((bif chk m l then 0 else 2 : Int) = 0)) (!mayM ⟨at_, v⟩)) (!mayM ⟨win, 0⟩)
def lastAt (l : List Entry) : Int := (l.getD (IntKind.i64.wrap ((l.length : Int) - 1)).toNat eZ).At
def bad25 (l : List Entry) (m : Bool) (at_ v win : Int) : Bool := bOr (bad25a l m at_ v win) (bAnd (decide ((l.length : Int) > 0)) (decide (lastAt l ≥ at_)))
def x25 (l : List Entry) (m : Bool) (at_ v win : Int) : Bool := match !bad25a l m at_ v win with | true => decide ((l.length : Int) > 0) | false => false
def k25 (l : List Entry) (m : Bool) (at_ v win : Int) : Bool := andB (andB true (lenOk l.length)) (impB (x25 l m at_ v win) (c30 l (IntKind.i64.wrap ((l.length : Int) - 1))))
def from25 (l : List Entry) (at_ win : Int) : Nat := fromN l at_ win (l.length + 1) 0
def to25 (l : List Entry) (m : Bool) (at_ v win : Int) : Nat := toN l m v (from25 l at_ win) (l.length + 1) l.length
def put25 (l : List Entry) (m : Bool) (at_ v win : Int) : List Entry := (l.take (to25 l m at_ v win)).drop (from25 l at_ win) ++ [⟨at_, v⟩]
def A25 (l : List Entry) (at_ v : Int) : Bool := decide ((0 : Int) = 0) && (decide ((l.length : Int) = l.length) && (lenOk l.length && (decide (at_ = at_) && decide (v = v))))
def B25c (l : List Entry) (at_ v win : Int) : Bool := decide ((0 : Int) ≤ (from25 l at_ win : Nat)) && (decide ((l.length : Int) = l.length) && (lenOk l.length && (decide (at_ = at_) && decide (v = v))))
def C25 (l : List Entry) (m : Bool) (at_ v win : Int) : Bool := decide ((0 : Int) ≤ (from25 l at_ win : Nat)) && decide (((from25 l at_ win : Nat) : Int) ≤ (to25 l m at_ v win : Nat)) && decide (((to25 l m at_ v win : Nat) : Int) ≤ l.length) && decide (((to25 l m at_ v win : Nat) : Int) = (to25 l m at_ v win : Nat))
def D25 (l : List Entry) (m : Bool) (at_ v win : Int) : Bool := match decide (((to25 l m at_ v win : Nat) : Int) = (to25 l m at_ v win : Nat)) with | true => Nat.ble (((l.take (to25 l m at_ v win)).drop (from25 l at_ win)).length + 1) appLim | false => false
def ok25 (l : List Entry) (m : Bool) (at_ v win : Int) : Bool := andB (andB (andB (andB (k25 l m at_ v win) (A25 l at_ v)) (B25c l at_ v win)) (C25 l m at_ v win)) (D25 l m at_ v win)
theorem run25 (l : List Entry) (o m : Bool) (at_ v win : Int) : runF (bbC G25 L25) Try.f55 [.slice .entry o l, .i64 at_, .i64 v, .i64 win, .bool m] [] =
    bif bad25 l m at_ v win then (⟨k25 l m at_ v win, .tup [.nils, .i64 2], []⟩ : Res) else ⟨ok25 l m at_ v win, .tup [.slice .entry false (put25 l m at_ v win), .i64 0], []⟩ := by kernel_rfl

end Go.Proofs

/-
  The bbr seat: filter.Put, its spec.
-/
namespace Go.Proofs
open Go Go.Im

theorem fromN_le (l : List Entry) (at_ win : Int) : ∀ (n i : Nat), i ≤ l.length → fromN l at_ win n i ≤ l.length
  | 0, i, h => h
  | n + 1, i, h => by
    simp only [fromN]
    cases hL : late25 l at_ win i l.length with
    | false => exact h
    | true =>
      have hlt : i < l.length := by
        unfold late25 bAnd at hL
        cases hd : decide ((i : Int) < l.length) with
        | false => rw [hd] at hL; cases hL
        | true => simpa using hd
      exact fromN_le l at_ win n (i + 1) hlt
theorem toN_le (l : List Entry) (m : Bool) (v : Int) (fr : Nat) : ∀ (n i : Nat), toN l m v fr n i ≤ i
  | 0, i => Nat.le_refl _
  | n + 1, i => by
    simp only [toN]
    cases beat25 l m v fr i with
    | false => exact Nat.le_refl _
    | true => exact Nat.le_trans (toN_le l m v fr n (i - 1)) (by omega)
theorem toN_ge (l : List Entry) (m : Bool) (v : Int) (fr : Nat) : ∀ (n i : Nat), fr ≤ i → fr ≤ toN l m v fr n i
  | 0, i, h => h
  | n + 1, i, h => by
    simp only [toN]
    cases hL : beat25 l m v fr i with
    | false => exact h
    | true =>
      have hlt : fr < i := by
        unfold beat25 bAnd at hL
        cases hd : decide ((fr : Int) < (i : Int)) with
        | false => rw [hd] at hL; cases hL
        | true => simpa using hd
      exact toN_ge l m v fr n (i - 1) (by omega)
theorem from25_le (l : List Entry) (at_ win : Int) : from25 l at_ win ≤ l.length := fromN_le l at_ win _ 0 (by omega)
theorem to25_le (l : List Entry) (m : Bool) (at_ v win : Int) : to25 l m at_ v win ≤ l.length := toN_le l m v _ _ _
theorem to25_ge (l : List Entry) (m : Bool) (at_ v win : Int) : from25 l at_ win ≤ to25 l m at_ v win := toN_ge l m v _ _ _ (from25_le l at_ win)

theorem k25_true {l : List Entry} (m : Bool) (at_ v win : Int) (hl : l.length < 4294967296) : k25 l m at_ v win = true := by
  have h1 : lenOk l.length = true := Nat.ble_eq_true_of_le (by omega)
  have h2 : impB (x25 l m at_ v win) (c30 l (IntKind.i64.wrap ((l.length : Int) - 1))) = true := impB_of fun h => by
    have h3 : (l.length : Int) > 0 := by
      unfold x25 at h
      split at h
      · simpa using h
      · cases h
    rw [wrap_i64 (by omega) (by omega)]
    simp [c30]; omega
  simp [k25, h1, h2, andB]
theorem ok25_true {l : List Entry} (m : Bool) (at_ v win : Int) (hl : l.length < 4294967296) : ok25 l m at_ v win = true := by
  have h1 : lenOk l.length = true := Nat.ble_eq_true_of_le (by omega)
  have hA : A25 l at_ v = true := by simp [A25, h1]
  have hB : B25c l at_ v win = true := by simp [B25c, h1]
  have hC : C25 l m at_ v win = true := by
    have h2 := to25_le l m at_ v win
    have h3 := to25_ge l m at_ v win
    simp [C25]; omega
  have hD : D25 l m at_ v win = true := by
    unfold D25
    simp only [decide_true]
    refine Nat.ble_eq_true_of_le ?_
    simp only [List.length_drop, List.length_take, appLim]
    omega
  simp [ok25, k25_true m at_ v win hl, hA, hB, hC, hD, andB]

def outL25 (l : List Entry) (m : Bool) (at_ v win : Int) : List Entry := bif bad25 l m at_ v win then [] else put25 l m at_ v win
def outE25 (l : List Entry) (m : Bool) (at_ v win : Int) : Int := bif bad25 l m at_ v win then 2 else 0
def S25 : FSpec := fun args bxs => match args, bxs with
  | [.slice .entry _ l, .int .i64 at_, .int .i64 v, .int .i64 win, .bool m], [] => some (Nat.blt l.length 4294967296, .tup [.slice .entry false (outL25 l m at_ v win), .i64 (outE25 l m at_ v win)], [])
  | _, _ => none
theorem has25 : Has 55 S25 := has_of (l := G25) (L := L25) g25 Try.func55 rfl (by kernel_rfl) (lok_two (b := loopAt Try.f55 0) (b2 := loopAt Try.f55 1) (f := F25a) (f2 := F25b) (by kernel_rfl) (by kernel_rfl) (by kernel_rfl) (law25a L25) (law25b L25)) (fun args bxs v bxs' h => by
  unfold S25 at h
  split at h <;> simp only [Option.some.injEq, Prod.mk.injEq, reduceCtorEq] at h
  obtain ⟨h1, rfl, rfl⟩ := h
  rename_i o l at_ v win m
  have hl : l.length < 4294967296 := by simpa [Nat.blt_eq] using h1
  refine ⟨Nat.le_of_ble_eq_true (by kernel_rfl), _, run25 l o m at_ v win, ?_⟩
  rw [k25_true m at_ v win hl, ok25_true m at_ v win hl]
  unfold outL25 outE25
  cases bad25 l m at_ v win with
  | true => exact ⟨rfl, leV_tup (leL_cons (.nils _ _) (leL_refl _)), leB_refl _⟩
  | false => exact ⟨rfl, .refl _, leB_refl _⟩) (fun h => by cases h)

end Go.Proofs

/-
  The bbr seat: speed.
-/
namespace Go.Proofs
open Go Go.Im

def rateM (s : Sample) : Int := if s.Rate < 1099511627776 then s.Rate else 1099511627776
def skipM (c : CcM) (s : Sample) : Bool := bOr (decide (rateM s = 0)) (bAnd s.Idle (decide (rateM s < bestV c.Bw)))
abbrev lastI (c : CcM) : Int := IntKind.i64.wrap ((c.Bw.length : Int) - 1)
def lastE (c : CcM) : Entry := c.Bw.getD (lastI c).toNat eZ
def sameM (c : CcM) : Bool := bAnd (decide ((c.Bw.length : Int) > 0)) (decide ((lastE c).At = c.Round))
def v16 (c : CcM) (s : Sample) : Int := bif sameM c then (if (lastE c).V > rateM s then (lastE c).V else rateM s) else rateM s
def l16 (c : CcM) : List Entry := bif sameM c then c.Bw.take (lastI c).toNat else c.Bw
def p16 (c : CcM) (s : Sample) : List Entry := outL25 (l16 c) true c.Round (v16 c s) 10
def sl16 (c : CcM) : Bool := decide ((0 : Int) ≤ 0) && decide (0 ≤ lastI c) && decide (lastI c ≤ c.Bw.length) && decide (lastI c = lastI c)
def k16 (c : CcM) : Bool := andB (andB (andB true (impB (decide ((c.Bw.length : Int) > 0)) (c30 c.Bw (lastI c)))) (mergeOk (sameM c) (andB (andB true (c30 c.Bw (lastI c))) (sl16 c)) true)) (Nat.blt (l16 c).length 4294967296)
theorem run16 (c : CcM) (s : Sample) : runF (bbC [(52, S23), (55, S25)] fun _ => none) Try.f40 [.ptr 0 0, .agg (sCells s)] [ccCells c] =
    bif skipM c s then ⟨true, .tup [], [ccCells c]⟩ else ⟨k16 c, .tup [], [ccCells { c with Bw := p16 c s }]⟩ := by kernel_rfl

theorem k16_true {c : CcM} (hl : c.Bw.length < 4294967296) : k16 c = true := by
  by_cases h0 : (c.Bw.length : Int) > 0
  · have hw : lastI c = (c.Bw.length : Int) - 1 := wrap_i64 (by omega) (by omega)
    have h1 : c30 c.Bw (lastI c) = true := by rw [hw]; simp [c30]; omega
    have h2 : sl16 c = true := by unfold sl16; rw [hw]; simp; omega
    have h3 : Nat.blt (l16 c).length 4294967296 = true := by
      simp only [Nat.blt_eq]
      unfold l16
      cases sameM c with
      | true => simp only [cond_true, List.length_take]; omega
      | false => exact hl
    simp [k16, h1, h2, h3, impB, andB, mergeOk]
  · have hs : sameM c = false := by
      have h5 : decide ((c.Bw.length : Int) > 0) = false := by simpa using h0
      simp only [sameM, h5]; rfl
    have h3 : Nat.blt (l16 c).length 4294967296 = true := by simp only [Nat.blt_eq, l16, hs]; exact hl
    have h4 : decide ((c.Bw.length : Int) > 0) = false := by simpa using h0
    unfold k16
    rw [h3, h4, hs]
    cases c30 c.Bw (lastI c) <;> cases sl16 c <;> rfl

def speedM (c : CcM) (s : Sample) : CcM := CcM.mrg (skipM c s) c { c with Bw := p16 c s }
def S16 : FSpec := fun args bxs => match args, bxs with
  | [.ptr 0 0, .agg ss], [cs] => (match decCc cs, decS ss with | some c, some s => some (Nat.blt c.Bw.length 4294967296, .tup [], [ccCells (speedM c s)]) | _, _ => none)
  | _, _ => none
abbrev G16 : List (Nat × FSpec) := [(52, S23), (55, S25)]
theorem g16 : ∀ p ∈ G16, Has p.1 p.2 := by
  intro p hp
  simp only [G16, List.mem_cons, List.not_mem_nil, or_false] at hp
  rcases hp with rfl | rfl
  · exact has23
  · exact has25
theorem has16 : Has 40 S16 := has_of (l := G16) (L := fun _ => none) g16 Try.func40 rfl (by kernel_rfl) (lok_none (by kernel_rfl)) (fun args bxs v bxs' h => by
  unfold S16 at h
  split at h <;> (try (cases h; done))
  rename_i ss cs
  split at h <;> (try (cases h; done))
  rename_i c s hc hs
  simp only [Option.some.injEq, Prod.mk.injEq] at h
  obtain ⟨h1, rfl, rfl⟩ := h
  obtain rfl := decCc_eq hc
  obtain rfl := decS_eq hs
  have hl : c.Bw.length < 4294967296 := by simpa [Nat.blt_eq] using h1
  refine ⟨Nat.le_of_ble_eq_true (by kernel_rfl), _, run16 c s, ?_⟩
  unfold speedM
  rw [CcM.mrg_eq, k16_true hl]
  cases skipM c s <;> exact ⟨rfl, .refl _, leB_refl _⟩) (fun h => by cases h)

end Go.Proofs

/-
  The bbr seat: New's spec, Acked's run.
-/
namespace Go.Proofs
open Go Go.Im

def bnewM (mss first : Int) : CcM := { newM 1 0 mss first with Kind := bif decide ((bif badN mss first then 2 else 0 : Int) = 0) then 3 else (newM 1 0 mss first).Kind, Mode := bif decide ((bif badN mss first then 2 else 0 : Int) = 0) then 1 else (newM 1 0 mss first).Mode }
def S6 : FSpec := fun args bxs => match args, bxs with | [.int .i64 mss, .int .i64 first], [] => some (true, .tup [.agg (ccCells (bnewM mss first)), .i64 (bif badN mss first then 2 else 0)], []) | _, _ => none
theorem has6 : Has 16 S6 := has_of (l := [(14, S13)]) (L := fun _ => none) (by simpa using has13) Try.func16 rfl (by kernel_rfl) (lok_none (by kernel_rfl)) (fun args bxs v bxs' h => by
  unfold S6 at h
  split at h <;> simp only [Option.some.injEq, Prod.mk.injEq, reduceCtorEq] at h
  obtain ⟨-, rfl, rfl⟩ := h
  exact ⟨Nat.le_of_ble_eq_true (by kernel_rfl), _, run6 _ _, rfl, .refl _, leB_refl _⟩) (fun h => by cases h)

abbrev G7 : List (Nat × FSpec) := [(30, S10), (38, S14), (39, S15), (40, S16), (41, S17), (42, S18), (43, S19), (44, S20), (45, S21)]
theorem g7 : ∀ p ∈ G7, Has p.1 p.2 := by
  intro p hp
  simp only [G7, List.mem_cons, List.not_mem_nil, or_false] at hp
  rcases hp with rfl | rfl | rfl | rfl | rfl | rfl | rfl | rfl | rfl
  · exact has10
  · exact has14
  · exact has15
  · exact has16
  · exact has17
  · exact has18
  · exact has19
  · exact has20
  · exact has21
def errC (c : CcM) : Int := bif badC c then 230 else 0
def badS (s : Sample) : Bool := bOr (bOr (!([s.Now, s.Given, s.Before, s.Rtt].all (okV 1125899906842624))) (!([s.Acked, s.Flight].all (okV 1073741824)))) (decide (s.Rate < 0))
def a1 (c : CcM) (s : Sample) : CcM := CcM.mrg (decide (s.Before < c.NextAt)) c (roundM c s)
def a2 (c : CcM) (s : Sample) : CcM := speedM (a1 c s) s
def late7 (c : CcM) (s : Sample) : Bool := lateM (a2 c s) s
def a3 (c : CcM) (s : Sample) : CcM := shortM (a2 c s) s
def isFull (c : CcM) (s : Sample) : Bool := bAnd (bAnd (!decide (s.Before < c.NextAt)) (decide ((a3 c s).Mode = 1))) (!s.Idle)
def a4 (c : CcM) (s : Sample) : CcM := CcM.mrg (isFull c s) (fullM (a3 c s)) (a3 c s)
def a5 (c : CcM) (s : Sample) : CcM := cycleM (a4 c s) s
def a6 (c : CcM) (s : Sample) : CcM := askM (a5 c s) s (late7 c s)
def ackM (c : CcM) (s : Sample) : CcM := windowM (a6 c s) s
theorem run7 (c : CcM) (s : Sample) : runF (bbC G7 fun _ => none) Try.f25 [.agg (ccCells c), .agg (sCells s)] [] =
    bif !decide (errC c = 0) then ⟨andB true (lenOk c.Bw.length), .tup [.agg ccZcells, .i64 (errC c)], []⟩
    else bif badS s then ⟨andB true (lenOk c.Bw.length), .tup [.agg ccZcells, .i64 2], []⟩
    else ⟨andB (andB true (lenOk c.Bw.length)) (Nat.blt (a1 c s).Bw.length 4294967296), .tup [.agg (ccCells (ackM c s)), .i64 0], []⟩ := by kernel_rfl
theorem a1_Bw (c : CcM) (s : Sample) : (a1 c s).Bw = c.Bw := by unfold a1; rw [CcM.mrg_eq]; cases decide (s.Before < c.NextAt) <;> rfl
def outM (c : CcM) (s : Sample) : CcM := bif badC c then ccZ else bif badS s then ccZ else ackM c s
def outE (c : CcM) (s : Sample) : Int := bif badC c then 230 else bif badS s then 2 else 0
def S7 : FSpec := fun args bxs => match args, bxs with
  | [.agg cs, .agg ss], [] => (match decCcW cs, decS ss with | some c, some s => some (Nat.blt c.Bw.length 4294967296, .tup [.agg (ccCells (outM c s)), .i64 (outE c s)], []) | _, _ => none)
  | _, _ => none
theorem has7 : Has 25 S7 := has_of2 (l := G7) (L := fun _ => none) g7 Try.func25 rfl (by kernel_rfl) (lok_none (by kernel_rfl)) (fun args bxs v bxs' h => by
  unfold S7 at h
  split at h <;> (try (cases h; done))
  rename_i cs ss
  split at h <;> (try (cases h; done))
  rename_i c s hc hs
  simp only [Option.some.injEq, Prod.mk.injEq] at h
  obtain ⟨h1, rfl, rfl⟩ := h
  have hl : c.Bw.length < 4294967296 := by simpa [Nat.blt_eq] using h1
  have h2 : lenOk c.Bw.length = true := Nat.ble_eq_true_of_le (by omega)
  obtain rfl := decS_eq hs
  refine ⟨[.agg (ccCells c), .agg (sCells s)], [], leL_cons (leV_agg (decCcW_le hc)) (leL_refl _), leB_nil, Nat.le_of_ble_eq_true (by kernel_rfl), _, run7 c s, ?_⟩
  rw [a1_Bw, h1, h2]
  unfold outM outE errC
  cases badC c with
  | true => exact ⟨rfl, leV_tup (leL_cons (leV_agg leZ) (leL_refl _)), leB_refl _⟩
  | false =>
    cases badS s with
    | true => exact ⟨rfl, leV_tup (leL_cons (leV_agg leZ) (leL_refl _)), leB_refl _⟩
    | false => exact ⟨rfl, .refl _, leB_refl _⟩) (fun h => by cases h)

end Go.Proofs

/-
  The bbr seat: Product, Bandwidth, Timeout, Gain, heads.
-/
namespace Go.Proofs
open Go Go.Im

/-- a function of the controller alone -/
def SC (val : CcM → Int) : FSpec := fun args bxs => match args, bxs with | [.agg cs], [] => (match decCcW cs with | some c => some (lenOk c.Bw.length, .i64 (bif badC c then 0 else val c), []) | none => none) | _, _ => none
theorem SC_inv {val : CcM → Int} {args : List PVal} {bxs : List (List PVal)} {v : PVal} {bxs' : List (List PVal)} (h : SC val args bxs = some (true, v, bxs')) :
    ∃ cs c, args = [.agg cs] ∧ bxs = [] ∧ decCcW cs = some c ∧ lenOk c.Bw.length = true ∧ v = .i64 (bif badC c then 0 else val c) ∧ bxs' = [] := by
  unfold SC at h
  split at h <;> (try (cases h; done))
  rename_i cs
  cases hd : decCcW cs with
  | none => rw [hd] at h; cases h
  | some c =>
    rw [hd] at h
    simp only [Option.some.injEq, Prod.mk.injEq] at h
    exact ⟨cs, c, rfl, rfl, hd, h.1, h.2.1.symm, h.2.2.symm⟩
abbrev G8 : List (Nat × FSpec) := [(30, S10), (38, S14), (56, S22), (52, S23)]
theorem g8 : ∀ p ∈ G8, Has p.1 p.2 := by
  intro p hp
  simp only [G8, List.mem_cons, List.not_mem_nil, or_false] at hp
  rcases hp with rfl | rfl | rfl | rfl
  · exact has10
  · exact has14
  · exact has22
  · exact has23
theorem run9 (c : CcM) : runF (bbC G8 fun _ => none) Try.f32 [.agg (ccCells c)] [] = bif !decide (errC c = 0) then ⟨andB true (lenOk c.Bw.length), .i64 0, []⟩ else ⟨andB true (lenOk c.Bw.length), .i64 (bestV c.Bw), []⟩ := by kernel_rfl
def gain1 (c : CcM) : Int := bif decide (c.Mode = 1) then 289 else bif decide (c.Mode = 2) then 35 else bif bAnd (decide (c.Mode = 3)) (decide (c.Phase = 0)) then 125 else bif bAnd (decide (c.Mode = 3)) (decide (c.Phase = 1)) then 75 else 100
theorem run12 (c : CcM) : runF (bbC G8 fun _ => none) Try.f31 [.agg (ccCells c)] [] = bif !decide (errC c = 0) then ⟨andB true (lenOk c.Bw.length), .i64 0, []⟩ else
    bif decide (c.Mode = 1) then ⟨andB true (lenOk c.Bw.length), .i64 289, []⟩ else bif decide (c.Mode = 2) then ⟨andB true (lenOk c.Bw.length), .i64 35, []⟩ else bif bAnd (decide (c.Mode = 3)) (decide (c.Phase = 0)) then ⟨andB true (lenOk c.Bw.length), .i64 125, []⟩ else bif bAnd (decide (c.Mode = 3)) (decide (c.Phase = 1)) then ⟨andB true (lenOk c.Bw.length), .i64 75, []⟩ else ⟨andB true (lenOk c.Bw.length), .i64 100, []⟩ := by kernel_rfl
theorem errC_dec (c : CcM) : (!decide (errC c = 0)) = badC c := by unfold errC; cases badC c <;> rfl
def S9 : FSpec := SC fun c => bestV c.Bw
theorem has9 : Has 32 S9 := has_of2 (l := G8) (L := fun _ => none) g8 Try.func32 rfl (by kernel_rfl) (lok_none (by kernel_rfl)) (fun args bxs v bxs' h => by
  obtain ⟨cs, c, rfl, rfl, hc, hl, rfl, rfl⟩ := SC_inv h
  refine ⟨[.agg (ccCells c)], [], leL_cons (leV_agg (decCcW_le hc)) leL_nil, leB_nil, Nat.le_of_ble_eq_true (by kernel_rfl), _, run9 c, ?_⟩
  rw [errC_dec, hl]
  cases badC c <;> exact ⟨rfl, .refl _, leB_refl _⟩) (fun h => by cases h)
def S12 : FSpec := SC gain1
theorem has12 : Has 31 S12 := has_of2 (l := G8) (L := fun _ => none) g8 Try.func31 rfl (by kernel_rfl) (lok_none (by kernel_rfl)) (fun args bxs v bxs' h => by
  obtain ⟨cs, c, rfl, rfl, hc, hl, rfl, rfl⟩ := SC_inv h
  refine ⟨[.agg (ccCells c)], [], leL_cons (leV_agg (decCcW_le hc)) leL_nil, leB_nil, Nat.le_of_ble_eq_true (by kernel_rfl), _, run12 c, ?_⟩
  rw [errC_dec, hl]
  unfold gain1
  cases badC c <;> cases decide (c.Mode = 1) <;> cases decide (c.Mode = 2) <;> cases bAnd (decide (c.Mode = 3)) (decide (c.Phase = 0)) <;> cases bAnd (decide (c.Mode = 3)) (decide (c.Phase = 1)) <;> exact ⟨rfl, .refl _, leB_refl _⟩) (fun h => by cases h)

def toM (c : CcM) : CcM := { c with Prior := c.Cwnd, Cwnd := c.Mss }
theorem run11 (c : CcM) (n : Int) : runF (bbC G8 fun _ => none) Try.f23 [.agg (ccCells c), .i64 n] [] = bif !decide (errC c = 0) then ⟨andB true (lenOk c.Bw.length), .tup [.agg ccZcells, .i64 230], []⟩ else
    bif !([n].all (okV 1073741824)) then ⟨andB true (lenOk c.Bw.length), .tup [.agg ccZcells, .i64 2], []⟩ else ⟨andB true (lenOk c.Bw.length), .tup [.agg (ccCells (toM c)), .i64 0], []⟩ := by kernel_rfl
def tM (c : CcM) (n : Int) : CcM := bif badC c then ccZ else bif !([n].all (okV 1073741824)) then ccZ else toM c
def tE (c : CcM) (n : Int) : Int := bif badC c then 230 else bif !([n].all (okV 1073741824)) then 2 else 0
def S11 : FSpec := fun args bxs => match args, bxs with
  | [.agg cs, .int .i64 n], [] => (match decCcW cs with | some c => some (lenOk c.Bw.length, .tup [.agg (ccCells (tM c n)), .i64 (tE c n)], []) | none => none)
  | _, _ => none
theorem has11 : Has 23 S11 := has_of2 (l := G8) (L := fun _ => none) g8 Try.func23 rfl (by kernel_rfl) (lok_none (by kernel_rfl)) (fun args bxs v bxs' h => by
  unfold S11 at h
  split at h <;> (try (cases h; done))
  rename_i cs n
  split at h <;> (try (cases h; done))
  rename_i c hc
  simp only [Option.some.injEq, Prod.mk.injEq] at h
  obtain ⟨h1, rfl, rfl⟩ := h
  refine ⟨[.agg (ccCells c), .i64 n], [], leL_cons (leV_agg (decCcW_le hc)) (leL_refl _), leB_nil, Nat.le_of_ble_eq_true (by kernel_rfl), _, run11 c n, ?_⟩
  rw [errC_dec, h1]
  unfold tM tE
  cases badC c with
  | true => exact ⟨rfl, leV_tup (leL_cons (leV_agg leZ) (leL_refl _)), leB_refl _⟩
  | false =>
    cases (!([n].all (okV 1073741824))) with
    | true => exact ⟨rfl, leV_tup (leL_cons (leV_agg leZ) (leL_refl _)), leB_refl _⟩
    | false => exact ⟨rfl, .refl _, leB_refl _⟩) (fun h => by cases h)

end Go.Proofs
