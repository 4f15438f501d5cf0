/-
  The bbr seat: BbrSteady, the loop.
-/
import Derived.Test.YtdlkpklhonphlaaMH

namespace Go.Proofs
open Go Go.Im

abbrev G3 : List (Nat × FSpec) := [(5, S5), (6, S6), (7, S7), (8, S8), (9, S9)]
theorem g3 : ∀ p ∈ G3, Has p.1 p.2 := by
  intro p hp
  simp only [G3, List.mem_cons, List.not_mem_nil, or_false] at hp
  rcases hp with rfl | rfl | rfl | rfl | rfl
  · exact has5
  · exact has6
  · exact has7
  · exact has8
  · exact has9
/-- at the loop's head: 0 mss, 1 rate, 2 rtt, 7 c's box (448), 9 given, 10 i -/
abbrev T3 (mss rate rtt given i : Int) : List (Nat × PVal) := [(0, .i64 mss), (1, .i64 rate), (2, .i64 rtt), (7, .ptr 448 0), (9, .i64 given), (10, .i64 i)]
abbrev B3 (c : CcM) : List (Nat × Option (List PVal)) := [(448, some (ccCells c))]
def s3 (rate rtt given i : Int) : Sample := ⟨IntKind.i64.wrap (i * rtt), if 1073741824 < IntKind.i64.wrap (IntKind.i64.wrap (IntKind.i64.wrap (rate.tdiv 1000) * IntKind.i64.wrap (rtt.tdiv 1000)) + 1000000) then 1073741824 else IntKind.i64.wrap (IntKind.i64.wrap (IntKind.i64.wrap (rate.tdiv 1000) * IntKind.i64.wrap (rtt.tdiv 1000)) + 1000000), rtt, rate, false, IntKind.i64.wrap (given + 1000), given, 0⟩
theorem round3 (L : Nat → Option LSpec) (c : CcM) (mss rate rtt given i : Int) (ok : Bool) (kn : St → Res) (kx : Nat → St → Res) (kr : St → Res) :
    exec (bbC G3 L) (loopAt Try.f3 0) (fun s => kn (norm [0, 1, 2, 7, 9, 10] [448] 560 s)) (fun i s => kx i (norm [0, 1, 2, 6, 7] [448] 560 s)) (fun s => kr (norm [0, 1, 2, 6, 7] [448] 560 s)) (headSt (T3 mss rate rtt given i) (B3 c) 560 125 ok) =
    bif decide (i ≤ 12) then
      (bif !decide (outE c (s3 rate rtt given i) = 0) then kr (headSt [(0, .i64 mss), (1, .i64 rate), (2, .i64 rtt), (6, .bool false), (7, .ptr 448 0)] (B3 c) 560 125 (andB ok (Nat.blt c.Bw.length 4294967296)))
       else kn (headSt (T3 mss rate rtt (IntKind.i64.wrap (given + 1000)) (IntKind.i64.wrap (i + 1))) (B3 (outM c (s3 rate rtt given i))) 560 125 (andB ok (Nat.blt c.Bw.length 4294967296))))
    else kx 0 (headSt [(0, .i64 mss), (1, .i64 rate), (2, .i64 rtt), (6, .undef), (7, .ptr 448 0)] (B3 c) 560 125 ok) := by kernel_rfl


def goodN (rate rtt : Int) : Nat → CcM → Int → Int → Bool
  | 0, _, _, _ => false
  | n + 1, c, given, i => bif decide (i ≤ 12) then
      (bif decide (outE c (s3 rate rtt given i) = 0) then (bif Nat.blt c.Bw.length 4294967296 then goodN rate rtt n (outM c (s3 rate rtt given i)) (IntKind.i64.wrap (given + 1000)) (IntKind.i64.wrap (i + 1)) else false) else false)
    else true
def endN (rate rtt : Int) : Nat → CcM → Int → Int → CcM
  | 0, c, _, _ => c
  | n + 1, c, given, i => bif decide (i ≤ 12) then endN rate rtt n (outM c (s3 rate rtt given i)) (IntKind.i64.wrap (given + 1000)) (IntKind.i64.wrap (i + 1)) else c
theorem loop3 (L : Nat → Option LSpec) (mss rate rtt : Int) (kx : Nat → St → Res) (kr : St → Res) : ∀ (n : Nat) (c : CcM) (given i : Int), goodN rate rtt n c given i = true →
    loopN (bbC G3 L) (loopAt Try.f3 0) [0, 1, 2, 7, 9, 10] [448] [0, 1, 2, 6, 7] [448] 560 n (headSt (T3 mss rate rtt given i) (B3 c) 560 125 true) kx kr =
    kx 0 (headSt [(0, .i64 mss), (1, .i64 rate), (2, .i64 rtt), (6, .undef), (7, .ptr 448 0)] (B3 (endN rate rtt n c given i)) 560 125 true)
  | 0, c, given, i, h => by cases h
  | n + 1, c, given, i, h => by
    simp only [goodN] at h
    simp only [endN]
    have e := round3 L c mss rate rtt given i true (fun s => loopN (bbC G3 L) (loopAt Try.f3 0) [0, 1, 2, 7, 9, 10] [448] [0, 1, 2, 6, 7] [448] 560 n s kx kr) kx kr
    cases h1 : decide (i ≤ 12) with
    | false =>
      rw [h1] at e
      exact e
    | true =>
      rw [h1] at h e
      simp only [cond_true] at h e ⊢
      cases h2 : decide (outE c (s3 rate rtt given i) = 0) with
      | false => rw [h2] at h; cases h
      | true =>
        rw [h2] at h e
        cases h3 : Nat.blt c.Bw.length 4294967296 with
        | false => rw [h3] at h; cases h
        | true =>
          rw [h3] at h e
          simp only [cond_true] at h
          refine Eq.trans e ?_
          exact loop3 L mss rate rtt kx kr n _ _ _ h


def F3 : LSpec := fun st kx kr => match st.tm 0, st.tm 1, st.tm 2, st.tm 7, st.tm 9, st.tm 10, Nat.beq st.n 125, Nat.beq st.nb 560, st.bx 448 with
  | .int .i64 mss, .int .i64 rate, .int .i64 rtt, .ptr 448 0, .int .i64 given, .int .i64 i, true, true, some cs => (match decCc cs with
    | some c => kx 0 (headSt [(0, .i64 mss), (1, .i64 rate), (2, .i64 rtt), (6, .undef), (7, .ptr 448 0)] (B3 (endN rate rtt 13 c given i)) 560 125 (andB st.ok (goodN rate rtt 13 c given i)))
    | none => Res.bad)
  | _, _, _, _, _, _, _, _, _ => Res.bad
theorem allLow_cc (c : CcM) (m : Nat) : allLow m (ccCells c) = true := rfl
theorem law3 (L : Nat → Option LSpec) : SoundL (bbC G3 L) (loopAt Try.f3 0) F3 := by
  refine soundL_of bb_mixed (bbEOk G3 L) (bbGOk L g3) [0, 1, 2, 7, 9, 10] [448] [0, 1, 2, 6, 7] [448] (fun _ => 13) (lok_none (by kernel_rfl)) fun st kx kr hx hr hok => ?_
  unfold F3 at hok ⊢
  split at hok
  · rename_i mss rate rtt given i cs h0 h1 h2 h7 h9 h10 hn hnb hb
    split at hok
    · rename_i c hd
      obtain rfl := decCc_eq hd
      try simp only [h0, h1, h2, h7, h9, h10, hn, hnb, hb, hd]
      obtain ⟨hok1, hc⟩ := andB_true (hx _ _ hok)
      have e : norm [0, 1, 2, 7, 9, 10] [448] st.nb st = headSt (T3 mss rate rtt given i) (B3 c) 560 125 true := by
        have := Nat.eq_of_beq_eq_true hn
        have := Nat.eq_of_beq_eq_true hnb
        simp [norm, headSt, keepT, keepB, h0, h1, h2, h7, h9, h10, hb, *, lowT, low, low0, lowB, andB, allLow_cc]
        rfl
      rw [e, Nat.eq_of_beq_eq_true hnb, loop3 L mss rate rtt kx kr 13 c given i hc]
      simp [hok1, hc, andB]
    · cases hok
  · cases hok

def L3 : Nat → Option LSpec := fun i => match Nat.beq i 8 with | true => some F3 | false => none
def out3 (mss rate rtt : Int) : Bool := bOr (bOr (bOr (bOr (bOr (decide (mss < 1)) (decide (mss > 10000))) (decide (rate < 1000))) (decide (rate > 1073741824))) (decide (rtt < 1000))) (decide (rtt > 1000000))
def e3 (mss rate rtt : Int) : CcM := endN rate rtt 13 (bnewM mss 10) 0 1
def want3 (mss : Int) (c : CcM) : Int := if IntKind.i64.wrap (2 * (bif badC c then 0 else productM c)) > IntKind.i64.wrap (4 * mss) then IntKind.i64.wrap (2 * (bif badC c then 0 else productM c)) else IntKind.i64.wrap (4 * mss)
def res3 (mss rate rtt : Int) (c : CcM) : Bool :=
  bAnd (bAnd (bAnd (bAnd (bAnd (decide (c.FullN = 3)) (decide (c.Mode = 3))) (decide ((bif badC c then 0 else bestV c.Bw) = rate))) (decide (c.MinRtt = rtt)))
    (bOr (decide (c.Cwnd = (if 1073741824 < want3 mss c then 1073741824 else want3 mss c))) (bAnd (decide (c.Cwnd < want3 mss c)) (decide (c.Cwnd ≥ IntKind.i64.wrap (10 * mss)))))) true
def k3 (mss rate rtt : Int) : Bool := andB (andB (andB true (goodN rate rtt 13 (bnewM mss 10) 0 1)) (lenOk (e3 mss rate rtt).Bw.length)) (impB (bAnd (decide ((e3 mss rate rtt).FullN = 3)) (decide ((e3 mss rate rtt).Mode = 3))) (lenOk (e3 mss rate rtt).Bw.length))
theorem run3 (mss rate rtt : Int) : runF (bbC G3 L3) Try.f3 [.i64 mss, .i64 rate, .i64 rtt] [] =
    bif out3 mss rate rtt then ⟨true, .bool true, []⟩ else
    bif !decide ((bif badN mss 10 then 2 else 0 : Int) = 0) then ⟨true, .bool false, []⟩ else
    ⟨k3 mss rate rtt, .bool (res3 mss rate rtt (e3 mss rate rtt)), []⟩ := by kernel_rfl

end Go.Proofs

/-
  The bbr seat: BbrSteady, the plain law.
-/
namespace Go.Proofs
open Go Go.Im

/-- an even path's numbers -/
structure Even (mss rate rtt : Int) : Prop where
  m1 : 1 ≤ mss
  m2 : mss ≤ 10000
  r1 : 1000 ≤ rate
  r2 : rate ≤ 1073741824
  t1 : 1000 ≤ rtt
  t2 : rtt ≤ 1000000
variable {mss rate rtt : Int}

def cs3 (mss rate rtt i w m fn ph pa : Int) : CcM := ⟨3, mss, w, 1073741824, 0, 0, 0, 0, 0, 0, m, [⟨i, rate⟩], rtt, i * rtt, i, 1000 * i, rate, fn, ph, pa, 0, 0⟩
def z3 (mss : Int) : CcM := ⟨3, mss, 10 * mss, 1073741824, 0, 0, 0, 0, 0, 0, 1, [], 0, 0, 0, 0, 0, 0, 0, 0, 0, 0⟩
def holdA (rate rtt : Int) : Int := if 1073741824 < rate / 1000 * (rtt / 1000) + 1000000 then 1073741824 else rate / 1000 * (rtt / 1000) + 1000000
def pP (rate rtt : Int) : Int := if mdV rate rtt 1000000 < 1073741824 then mdV rate rtt 1000000 else 1073741824
def tT (mss rate rtt : Int) : Int := if 4 * mss > 2 * pP rate rtt then 4 * mss else 2 * pP rate rtt

theorem mul_bound (E : Even mss rate rtt) : 0 ≤ rate / 1000 * (rtt / 1000) ∧ rate / 1000 * (rtt / 1000) ≤ 1073741000 := by
  have := E.r1; have := E.r2; have := E.t1; have := E.t2
  have h1 : 0 ≤ rate / 1000 := by omega
  have h2 : rate / 1000 ≤ 1073741 := by omega
  have h3 : 0 ≤ rtt / 1000 := by omega
  have h4 : rtt / 1000 ≤ 1000 := by omega
  refine ⟨Int.mul_nonneg h1 h3, ?_⟩
  calc rate / 1000 * (rtt / 1000) ≤ 1073741 * 1000 := Int.mul_le_mul h2 h4 h3 (by omega)
    _ = 1073741000 := by omega
theorem holdA_bound (E : Even mss rate rtt) : 0 ≤ holdA rate rtt ∧ holdA rate rtt ≤ 1073741824 := by
  have := mul_bound E
  unfold holdA
  generalize rate / 1000 * (rtt / 1000) = h at *
  split <;> omega
theorem prod_bound (E : Even mss rate rtt) : 0 ≤ rate * rtt ∧ rate * rtt ≤ 1073741824000000 := by
  have := E.r1; have := E.r2; have := E.t1; have := E.t2
  refine ⟨Int.mul_nonneg (by omega) (by omega), ?_⟩
  calc rate * rtt ≤ 1073741824 * 1000000 := Int.mul_le_mul (by omega) (by omega) (by omega) (by omega)
    _ = 1073741824000000 := by omega
theorem mdV_eq (E : Even mss rate rtt) : mdV rate rtt 1000000 = rate * rtt / 1000000 := by
  have := E.r1; have := E.r2; have := E.t1; have := E.t2
  have hb := prod_bound E
  have e1 : wU rate = rate := by rw [wU_eq]; omega
  have e2 : wU rtt = rtt := by rw [wU_eq]; omega
  have e3 : wU 1000000 = 1000000 := by rw [wU_eq]; omega
  have hbad : mdBad rate rtt 1000000 = false := by
    have h1 : decide (rate < 0) = false := by simp; omega
    have h2 : decide (rtt < 0) = false := by simp; omega
    unfold mdBad; rw [h1, h2]; rfl
  have hH : mdH rate rtt = 0 := by
    unfold mdH; rw [e1, e2]
    generalize rate * rtt = p at *
    omega
  have hL : mdL rate rtt = rate * rtt := by
    unfold mdL; rw [e1, e2]
    generalize rate * rtt = p at *
    omega
  have hQ : mdQ rate rtt 1000000 = rate * rtt / 1000000 := by unfold mdQ qM; rw [hH, hL, e3]; rfl
  have hge : decide (mdH rate rtt ≥ wU 1000000) = false := by rw [hH, e3]; rfl
  unfold mdV mdR
  rw [hbad, hge, hQ]
  simp only [cond_false]
  generalize rate * rtt = p at *
  rw [if_neg (by omega)]
  exact wrap_i64 (by omega) (by omega)
theorem pP_bound (E : Even mss rate rtt) : 0 ≤ pP rate rtt ∧ pP rate rtt ≤ 1073741824 := by
  have := prod_bound E
  unfold pP
  rw [mdV_eq E]
  generalize rate * rtt = p at *
  split <;> omega
theorem productM_eq {c : CcM} (hb : bestV c.Bw = rate) (hr : c.MinRtt = rtt) : productM c = pP rate rtt := by unfold productM pP; rw [hb, hr]
theorem targetM_eq (E : Even mss rate rtt) {c : CcM} (hb : bestV c.Bw = rate) (hr : c.MinRtt = rtt) (hm : c.Mss = mss) : targetM c = tT mss rate rtt := by
  have := pP_bound E
  have := E.m1; have := E.m2
  unfold targetM tT
  rw [productM_eq hb hr, hm, wrap_i64 (by omega) (by omega), wrap_i64 (by omega) (by omega)]
theorem tT_bound (E : Even mss rate rtt) : 4 * mss ≤ tT mss rate rtt ∧ tT mss rate rtt ≤ 2147483648 := by
  have := pP_bound E
  have := E.m1; have := E.m2
  unfold tT
  split <;> omega

/-- a sample of an even path -/
def e3s (rate rtt i : Int) : Sample := ⟨(i + 1) * rtt, holdA rate rtt, rtt, rate, false, 1000 * (i + 1), 1000 * i, 0⟩
theorem i_rtt (E : Even mss rate rtt) {i : Int} (h0 : 0 ≤ i) (h : i ≤ 100) : 0 ≤ i * rtt ∧ i * rtt ≤ 100000000 := by
  have := E.t1; have := E.t2
  refine ⟨Int.mul_nonneg h0 (by omega), ?_⟩
  calc i * rtt ≤ 100 * 1000000 := Int.mul_le_mul h (by omega) (by omega) (by omega)
    _ = 100000000 := by omega
theorem s3_eq (E : Even mss rate rtt) {i : Int} (h0 : 0 ≤ i) (h : i ≤ 12) : s3 rate rtt (1000 * i) (i + 1) = e3s rate rtt i := by
  have := E.r1; have := E.r2; have := E.t1; have := E.t2
  have hm := mul_bound E
  have hi := i_rtt E (i := i + 1) (by omega) (by omega)
  unfold s3 e3s holdA
  rw [Int.tdiv_eq_ediv_of_nonneg (by omega), Int.tdiv_eq_ediv_of_nonneg (by omega)]
  rw [wrap_i64 (n := rate / 1000) (by omega) (by omega), wrap_i64 (n := rtt / 1000) (by omega) (by omega)]
  generalize rate / 1000 * (rtt / 1000) = p at *
  generalize (i + 1) * rtt = q at *
  rw [wrap_i64 (n := p) (by omega) (by omega), wrap_i64 (n := p + 1000000) (by omega) (by omega), wrap_i64 (n := q) (by omega) (by omega), wrap_i64 (n := 1000 * i + 1000) (by omega) (by omega)]
  have : 1000 * i + 1000 = 1000 * (i + 1) := by omega
  rw [this]

theorem badS_false (E : Even mss rate rtt) {i : Int} (h0 : 0 ≤ i) (h : i ≤ 12) : badS (e3s rate rtt i) = false := by
  have := E.r1; have := E.r2; have := E.t1; have := E.t2
  have hi := i_rtt E (i := i + 1) (by omega) (by omega)
  have hA := holdA_bound E
  simp only [badS, e3s, List.all_cons, List.all_nil, okV, bOr]
  generalize (i + 1) * rtt = q at *
  generalize holdA rate rtt = a at *
  have k1 : decide (q < 0) = false := by simp; omega
  have k2 : decide (q > 1125899906842624) = false := by simp; omega
  have k3 : decide (1000 * (i + 1) < 0) = false := by simp; omega
  have k4 : decide (1000 * (i + 1) > 1125899906842624) = false := by simp; omega
  have k5 : decide (1000 * i < 0) = false := by simp; omega
  have k6 : decide (1000 * i > 1125899906842624) = false := by simp; omega
  have k7 : decide (rtt < 0) = false := by simp; omega
  have k8 : decide (rtt > 1125899906842624) = false := by simp; omega
  have k9 : decide (a < 0) = false := by simp; omega
  have k10 : decide (a > 1073741824) = false := by simp; omega
  have k11 : decide (rate < 0) = false := by simp; omega
  simp only [k1, k2, k3, k4, k5, k6, k7, k8, k9, k10]
  exact k11

theorem may_of {a v : Int} (h1 : 0 ≤ a) (h2 : a ≤ 1125899906842624) (h3 : 0 ≤ v) (h4 : v ≤ 1152921504606846976) : mayM ⟨a, v⟩ = true := by
  simp [mayM]; omega
theorem chk_one {m : Bool} {a v : Int} (h : mayM ⟨a, v⟩ = true) : chk m [⟨a, v⟩] = true := by
  simp [chk, good30, bad30, List.range', h, x30, y30]

theorem bAnd_mk {x y : Bool} (h : x = true) (k : y = true) : bAnd x y = true := by rw [h, k]; rfl
theorem bOr_true (x : Bool) : bOr x true = true := by cases x <;> rfl
theorem bOr_mk {x y : Bool} (h : x = false) (k : y = false) : bOr x y = false := by rw [h, k]; rfl
theorem dF {p : Prop} [Decidable p] (h : ¬ p) : decide p = false := decide_eq_false h
theorem okV_mk {a v : Int} (h : 0 ≤ v) (k : v ≤ a) : okV a v = true := by
  have h1 : decide (v < 0) = false := dF (by omega)
  have h2 : decide (v > a) = false := dF (by omega)
  unfold okV; rw [h1, h2]; rfl
theorem all_mk {α : Type} {f : α → Bool} {x : α} {l : List α} (h : f x = true) (k : l.all f = true) : (x :: l).all f = true := by simp [h, k]
theorem entries_one {c : CcM} {a v : Int} (hb : c.Bw = [⟨a, v⟩]) (h1 : 0 ≤ a) (h2 : a ≤ 1125899906842624) (h3 : 0 ≤ v) (h4 : v ≤ 1099511627776) (h5 : a ≤ c.Round) : entriesM c = true := by
  have hc : chk true [⟨a, v⟩] = true := chk_one (may_of h1 h2 h3 (by omega))
  have e1 : decide (v > 1099511627776) = false := dF (by omega)
  have e2 : decide (a > c.Round) = false := dF (by omega)
  unfold entriesM
  rw [hb, hc]
  show (List.range' 0 1).all (good24 c [⟨a, v⟩]) = true
  have : good24 c [⟨a, v⟩] 0 = true := by
    show (!(bif decide (v > 1099511627776) then true else decide (a > c.Round))) = true
    rw [e1, e2]; rfl
  simp [List.range', this]

theorem badC_of {c : CcM} (h1 : plainM c = true) (h2 : bareM c = true) (h3 : timesM c = true) (h4 : numbersM c = true) (h5 : 1 ≤ c.Mode) (h6 : c.Mode ≤ 4) (h7 : entriesM c = true) : badC c = false := by
  have e5 : decide (c.Mode < 1) = false := dF (by omega)
  have e6 : decide (c.Mode > 4) = false := dF (by omega)
  unfold badC sixM
  rw [h1, h2, h3, h4, h7, e5, e6]; rfl

theorem badC_false (E : Even mss rate rtt) {i w m fn ph pa : Int} (hi : 1 ≤ i ∧ i ≤ 12) (hw : mss ≤ w ∧ w ≤ 1073741824) (hm : 1 ≤ m ∧ m ≤ 4) (hf : 0 ≤ fn ∧ fn ≤ 3) (hp : 0 ≤ ph ∧ ph ≤ 7) (ha : 0 ≤ pa ∧ pa ≤ 1125899906842624) :
    badC (cs3 mss rate rtt i w m fn ph pa) = false := by
  have := E.r1; have := E.r2; have := E.t1; have := E.t2; have := E.m1; have := E.m2
  have hit := i_rtt E (i := i) (by omega) (by omega)
  have hit2 : i * rtt ≤ 1125899906842624 := by omega
  refine badC_of ?_ rfl ?_ ?_ hm.1 hm.2 (entries_one (a := i) (v := rate) rfl (by omega) (by omega) (by omega) (by omega) (show i ≤ i by omega))
  · exact bAnd_mk (bAnd_mk (bAnd_mk (bAnd_mk (bAnd_mk (bAnd_mk rfl (decide_eq_true (show 1 ≤ mss by omega))) (decide_eq_true (show mss ≤ 65000 by omega))) (decide_eq_true (show mss ≤ w by omega))) (decide_eq_true (show w ≤ 1073741824 by omega))) rfl) rfl
  · exact all_mk (okV_mk (show 0 ≤ rtt by omega) (show rtt ≤ 1125899906842624 by omega)) (all_mk (okV_mk hit.1 hit2) (all_mk (okV_mk (show 0 ≤ 1000 * i by omega) (show 1000 * i ≤ 1125899906842624 by omega)) (all_mk (okV_mk ha.1 ha.2) (all_mk rfl (all_mk (okV_mk (show 0 ≤ i by omega) (show i ≤ 1125899906842624 by omega)) rfl)))))
  · exact bAnd_mk (bAnd_mk (bAnd_mk (all_mk (okV_mk (show 0 ≤ rate by omega) (show rate ≤ 1099511627776 by omega)) rfl) (all_mk (okV_mk hf.1 hf.2) rfl)) (all_mk (okV_mk hp.1 hp.2) rfl)) rfl
theorem badC_z (E : Even mss rate rtt) : badC (z3 mss) = false := by
  have := E.m1; have := E.m2
  refine badC_of ?_ rfl rfl rfl (show (1 : Int) ≤ 1 by omega) (show (1 : Int) ≤ 4 by omega) rfl
  exact bAnd_mk (bAnd_mk (bAnd_mk (bAnd_mk (bAnd_mk (bAnd_mk rfl (decide_eq_true (show 1 ≤ mss by omega))) (decide_eq_true (show mss ≤ 65000 by omega))) (decide_eq_true (show mss ≤ 10 * mss by omega))) (decide_eq_true (show 10 * mss ≤ 1073741824 by omega))) rfl) rfl

/-! ### one round -/
theorem put_one (E : Even mss rate rtt) {i : Int} (h0 : 1 ≤ i) (h : i ≤ 12) : outL25 [⟨i, rate⟩] true (i + 1) rate 10 = [⟨i + 1, rate⟩] := by
  have := E.r1; have := E.r2
  have h1 := may_of (a := i) (v := rate) (by omega) (by omega) (by omega) (by omega)
  have h2 := may_of (a := i + 1) (v := rate) (by omega) (by omega) (by omega) (by omega)
  have hb : bad25 [⟨i, rate⟩] true (i + 1) rate 10 = false := by
    have e1 : bad25a [⟨i, rate⟩] true (i + 1) rate 10 = false := by
      unfold bad25a; rw [chk_one h1, h2]; rfl
    have e2 : decide (lastAt [⟨i, rate⟩] ≥ i + 1) = false := by
      have : lastAt [⟨i, rate⟩] = i := rfl
      rw [this]; simp; omega
    unfold bad25; rw [e1, e2]; rfl
  have hf : from25 [⟨i, rate⟩] (i + 1) 10 = 0 := by
    have e : late25 [⟨i, rate⟩] (i + 1) 10 (0 : Nat) (([⟨i, rate⟩] : List Entry).length : Nat) = false := by
      have : decide (IntKind.i64.wrap (i + 10) < i + 1) = false := by rw [wrap_i64 (by omega) (by omega)]; exact dF (by omega)
      simp only [late25, bAnd]
      show (bif decide ((0 : Int) < ((1 : Nat) : Int)) then decide (IntKind.i64.wrap (i + 10) < i + 1) else false) = false
      rw [this]; rfl
    unfold from25 fromN; rw [e]; rfl
  have ht : to25 [⟨i, rate⟩] true (i + 1) rate 10 = 0 := by
    have e1 : beat25 [⟨i, rate⟩] true rate (0 : Nat) (1 : Nat) = true := by
      have : beatsM rate rate true = true := by simp [beatsM]
      have w0 : IntKind.i64.wrap (((1 : Nat) : Int) - 1) = 0 := wrap_i64 (by omega) (by omega)
      unfold beat25
      rw [w0]
      show bAnd (decide (((0 : Nat) : Int) < ((1 : Nat) : Int))) (beatsM rate rate true) = true
      rw [this]; rfl
    have e2 : beat25 [⟨i, rate⟩] true rate (0 : Nat) (0 : Nat) = false := rfl
    unfold to25
    rw [hf]
    show toN _ _ _ 0 2 1 = 0
    simp only [toN, e1, cond_true]
    show (bif beat25 [⟨i, rate⟩] true rate (0 : Nat) (0 : Nat) then _ else _) = 0
    rw [e2]; rfl
  unfold outL25 put25
  rw [hb, hf, ht]; rfl
theorem put_nil (E : Even mss rate rtt) : outL25 [] true 1 rate 10 = [⟨1, rate⟩] := by
  have := E.r1; have := E.r2
  have h2 := may_of (a := 1) (v := rate) (by omega) (by omega) (by omega) (by omega)
  have hb : bad25 [] true 1 rate 10 = false := by
    have e1 : bad25a [] true 1 rate 10 = false := by
      unfold bad25a; rw [h2]; rfl
    unfold bad25; rw [e1]; rfl
  unfold outL25
  rw [hb]; rfl

theorem rateM_eq (E : Even mss rate rtt) (i : Int) : rateM (e3s rate rtt i) = rate := by
  have := E.r2
  show (if rate < 1099511627776 then rate else 1099511627776) = rate
  rw [if_pos (by omega)]
theorem skip_false (E : Even mss rate rtt) (c : CcM) (i : Int) : skipM c (e3s rate rtt i) = false := by
  have := E.r1
  have h : decide (rate = 0) = false := by simp; omega
  unfold skipM
  rw [rateM_eq E, h]; rfl
theorem a1_eq (c : CcM) {s : Sample} (h : c.NextAt ≤ s.Before) : a1 c s = roundM c s := by
  have : decide (s.Before < c.NextAt) = false := by simp; omega
  unfold a1; rw [CcM.mrg_eq, this]; rfl
def withBw (c : CcM) (l : List Entry) : CcM := { c with Bw := l }
def rs3 (mss rate rtt i w m fn ph pa : Int) (l : List Entry) : CcM := ⟨3, mss, w, 1073741824, 0, 0, 0, 0, 0, 0, m, l, rtt, i * rtt, i + 1, 1000 * (i + 1), rate, fn, ph, pa, 0, 0⟩
def rz3 (mss : Int) (l : List Entry) : CcM := ⟨3, mss, 10 * mss, 1073741824, 0, 0, 0, 0, 0, 0, 1, l, 0, 0, 1, 1000, 0, 0, 0, 0, 0, 0⟩
def fz3 (mss rate rtt : Int) : CcM := ⟨3, mss, 10 * mss, 1073741824, 0, 0, 0, 0, 0, 0, 1, [⟨1, rate⟩], rtt, 1 * rtt, 1, 1000, 0, 0, 0, 0, 0, 0⟩
theorem a2_eq (E : Even mss rate rtt) {c : CcM} {i : Int} (h : c.NextAt ≤ 1000 * i) : a2 c (e3s rate rtt i) = withBw (roundM c (e3s rate rtt i)) (p16 (roundM c (e3s rate rtt i)) (e3s rate rtt i)) := by
  unfold a2 speedM
  rw [a1_eq c (s := e3s rate rtt i) h, CcM.mrg_eq, skip_false E]; rfl

theorem a3_z (E : Even mss rate rtt) : a3 (z3 mss) (e3s rate rtt 0) = fz3 mss rate rtt ∧ late7 (z3 mss) (e3s rate rtt 0) = false := by
  have := E.t1
  have e2 := a2_eq E (c := z3 mss) (i := 0) (show (0 : Int) ≤ 1000 * 0 by omega)
  have hr : roundM (z3 mss) (e3s rate rtt 0) = rz3 mss [] := rfl
  have hp : p16 (rz3 mss []) (e3s rate rtt 0) = [⟨1, rate⟩] := by
    have e1 : v16 (rz3 mss []) (e3s rate rtt 0) = rate := rateM_eq E 0
    unfold p16
    rw [e1]
    exact put_nil E
  rw [hr, hp, show withBw (rz3 mss []) [⟨1, rate⟩] = rz3 mss [⟨1, rate⟩] from rfl] at e2
  refine ⟨?_, by unfold late7; rw [e2]; rfl⟩
  unfold a3 shortM
  rw [e2]
  have hu : updM (rz3 mss [⟨1, rate⟩]) (e3s rate rtt 0) = true := by
    have h1 : decide (rtt > 0) = true := decide_eq_true (by omega)
    show bAnd (decide (rtt > 0)) _ = true
    rw [h1]; rfl
  rw [hu]
  rfl

theorem a3_cs (E : Even mss rate rtt) {i w m fn ph pa : Int} (h0 : 1 ≤ i) (h : i ≤ 11) : a3 (cs3 mss rate rtt i w m fn ph pa) (e3s rate rtt i) = cs3 mss rate rtt (i + 1) w m fn ph pa ∧ late7 (cs3 mss rate rtt i w m fn ph pa) (e3s rate rtt i) = false := by
  have := E.t1; have := E.t2
  have hi1 := i_rtt E (i := i) (by omega) (by omega)
  have e2 := a2_eq E (c := cs3 mss rate rtt i w m fn ph pa) (i := i) (Int.le_refl _)
  have hr : roundM (cs3 mss rate rtt i w m fn ph pa) (e3s rate rtt i) = rs3 mss rate rtt i w m fn ph pa [⟨i, rate⟩] := by
    have : (if IntKind.i64.wrap (i + 1) < 1125899906842624 then IntKind.i64.wrap (i + 1) else 1125899906842624) = i + 1 := by rw [wrap_i64 (by omega) (by omega), if_pos (by omega)]
    show CcM.mk _ _ _ _ _ _ _ _ _ _ _ _ _ _ (if IntKind.i64.wrap (i + 1) < 1125899906842624 then IntKind.i64.wrap (i + 1) else 1125899906842624) _ _ _ _ _ _ _ = _
    rw [this]; rfl
  have hp : p16 (rs3 mss rate rtt i w m fn ph pa [⟨i, rate⟩]) (e3s rate rtt i) = [⟨i + 1, rate⟩] := by
    have hs : sameM (rs3 mss rate rtt i w m fn ph pa [⟨i, rate⟩]) = false := by
      have : decide (i = i + 1) = false := dF (by omega)
      show bAnd _ (decide (i = i + 1)) = false
      rw [this]; rfl
    have e1 : v16 (rs3 mss rate rtt i w m fn ph pa [⟨i, rate⟩]) (e3s rate rtt i) = rate := by
      unfold v16; rw [hs]; exact rateM_eq E i
    have e2 : l16 (rs3 mss rate rtt i w m fn ph pa [⟨i, rate⟩]) = [⟨i, rate⟩] := by unfold l16; rw [hs]; rfl
    unfold p16
    rw [e1, e2]
    exact put_one E h0 (by omega)
  rw [hr, hp, show withBw (rs3 mss rate rtt i w m fn ph pa [⟨i, rate⟩]) [⟨i + 1, rate⟩] = rs3 mss rate rtt i w m fn ph pa [⟨i + 1, rate⟩] from rfl] at e2
  have hd : (i + 1) * rtt - i * rtt = rtt := by rw [Int.add_mul]; omega
  have hl : late7 (cs3 mss rate rtt i w m fn ph pa) (e3s rate rtt i) = false := by
    unfold late7; rw [e2]
    have h1 : IntKind.i64.wrap ((i + 1) * rtt - i * rtt) = rtt := by rw [hd]; exact wrap_i64 (by omega) (by omega)
    have h2 : decide (rtt > 10000000) = false := dF (by omega)
    show bAnd (decide (rtt > 0)) (decide (IntKind.i64.wrap ((i + 1) * rtt - i * rtt) > 10000000)) = false
    rw [h1, h2]
    cases decide (rtt > 0) <;> rfl
  refine ⟨?_, hl⟩
  unfold a3 shortM
  rw [e2]
  have hu : updM (rs3 mss rate rtt i w m fn ph pa [⟨i + 1, rate⟩]) (e3s rate rtt i) = true := by
    have h1 : decide (rtt > 0) = true := decide_eq_true (by omega)
    have h2 : decide (rtt ≤ rtt) = true := decide_eq_true (by omega)
    refine bAnd_mk h1 ?_
    show bOr _ (decide (rtt ≤ rtt)) = true
    rw [h2]
    exact bOr_true _
  rw [hu]
  rfl

/-! ### the later steps -/
theorem isFull_eq (c : CcM) (i : Int) (hn : c.NextAt ≤ 1000 * i) : isFull c (e3s rate rtt i) = decide ((a3 c (e3s rate rtt i)).Mode = 1) := by
  have h : decide (1000 * i < c.NextAt) = false := dF (by omega)
  show bAnd (bAnd (!decide (1000 * i < c.NextAt)) (decide ((a3 c (e3s rate rtt i)).Mode = 1))) true = _
  rw [h]
  cases decide ((a3 c (e3s rate rtt i)).Mode = 1) <;> rfl
def winT (mss rate rtt w fn : Int) : Int := bif decide (fn = 3) then (if w + holdA rate rtt < tT mss rate rtt then w + holdA rate rtt else tT mss rate rtt) else (bif decide (w < tT mss rate rtt) then w + holdA rate rtt else w)
def outW (mss rate rtt w fn : Int) : Int := clampM (winT mss rate rtt w fn) mss 1073741824
theorem window_eq (E : Even mss rate rtt) {i j w m fn ph pa : Int} (hm : m ≠ 4) (hw : 0 ≤ w ∧ w ≤ 1073741824) : windowM (cs3 mss rate rtt j w m fn ph pa) (e3s rate rtt i) = cs3 mss rate rtt j (outW mss rate rtt w fn) m fn ph pa := by
  have hA := holdA_bound E
  have hr := E.r1
  have ht : targetM (cs3 mss rate rtt j w m fn ph pa) = tT mss rate rtt := targetM_eq E rfl rfl rfl
  have e : winW (cs3 mss rate rtt j w m fn ph pa) (e3s rate rtt i) = winT mss rate rtt w fn := by
    have h1 : decide (m = 4) = false := dF hm
    have h2 : decide (rate = 0) = false := dF (by omega)
    have h3 : IntKind.i64.wrap (w + holdA rate rtt) = w + holdA rate rtt := wrap_i64 (by omega) (by omega)
    unfold winW winT
    rw [ht]
    show (bif decide (m = 4) then _ else (bif decide (fn = 3) then (if IntKind.i64.wrap (w + holdA rate rtt) < tT mss rate rtt then IntKind.i64.wrap (w + holdA rate rtt) else tT mss rate rtt) else (bif bOr (decide (w < tT mss rate rtt)) (decide (rate = 0)) then IntKind.i64.wrap (w + holdA rate rtt) else w))) = _
    rw [h1, h2, h3]
    cases decide (w < tT mss rate rtt) <;> rfl
  unfold windowM outW
  rw [e]; rfl
theorem ask_none {c : CcM} (s : Sample) (h : c.Mode ≠ 4) : askM c s false = c := by
  have h1 : decide (c.Mode = 4) = false := dF h
  unfold askM
  rw [CcM.mrg_eq, CcM.mrg_eq, h1]; rfl
theorem cycle_1 (E : Even mss rate rtt) {j i w fn ph pa : Int} : cycleM (cs3 mss rate rtt j w 1 fn ph pa) (e3s rate rtt i) = cs3 mss rate rtt j w 1 fn ph pa := by
  unfold cycleM
  rw [CcM.mrg_eq]; rfl
theorem cycle_2 (E : Even mss rate rtt) {j i w fn ph pa : Int} : cycleM (cs3 mss rate rtt j w 2 fn ph pa) (e3s rate rtt i) = cs3 mss rate rtt j w 3 fn 2 ((i + 1) * rtt) := by
  have hp := pP_bound E
  have h : decide ((0 : Int) ≤ productM (cs3 mss rate rtt j w 2 fn ph pa)) = true := by rw [productM_eq (rate := rate) (rtt := rtt) rfl rfl]; exact decide_eq_true hp.1
  have hd : drainM (cs3 mss rate rtt j w 2 fn ph pa) (e3s rate rtt i) = true := bAnd_mk rfl h
  unfold cycleM
  rw [CcM.mrg_eq, hd]; rfl
theorem cycle_3 (E : Even mss rate rtt) {j i w fn ph pa : Int} (hp : 0 ≤ ph ∧ ph ≤ 7) (ha : 0 ≤ pa ∧ pa ≤ 1125899906842624) (h0 : 0 ≤ i) (h : i ≤ 12) : ∃ ph' pa', cycleM (cs3 mss rate rtt j w 3 fn ph pa) (e3s rate rtt i) = cs3 mss rate rtt j w 3 fn ph' pa' ∧ (0 ≤ ph' ∧ ph' ≤ 7) ∧ (0 ≤ pa' ∧ pa' ≤ 1125899906842624) := by
  have hi := i_rtt E (i := i + 1) (by omega) (by omega)
  have hd : drainM (cs3 mss rate rtt j w 3 fn ph pa) (e3s rate rtt i) = false := rfl
  have e : cycleM (cs3 mss rate rtt j w 3 fn ph pa) (e3s rate rtt i) = nextM (cs3 mss rate rtt j w 3 fn ph pa) (e3s rate rtt i) := by unfold cycleM; rw [CcM.mrg_eq, hd]; rfl
  rw [e]
  unfold nextM
  cases turnM (cs3 mss rate rtt j w 3 fn ph pa) (e3s rate rtt i) with
  | false => exact ⟨ph, pa, rfl, hp, ha⟩
  | true =>
    refine ⟨(IntKind.i64.wrap (ph + 1)).tmod 8, (i + 1) * rtt, rfl, ?_, by omega⟩
    rw [wrap_i64 (by omega) (by omega), Int.tmod_eq_emod_of_nonneg (by omega)]
    omega
theorem full_eq (E : Even mss rate rtt) {j w m fn ph pa : Int} (hf : 0 ≤ fn ∧ fn ≤ 3) : fullM (cs3 mss rate rtt j w m fn ph pa) = cs3 mss rate rtt j w (bif decide (fn + 1 ≥ 3) then 2 else m) (if fn + 1 < 3 then fn + 1 else 3) ph pa := by
  have := E.r1; have := E.r2
  have h1 : decide (rate = 0) = false := dF (by omega)
  have h2 : decide (IntKind.i64.wrap (4 * rate) ≥ IntKind.i64.wrap (5 * rate)) = false := by rw [wrap_i64 (by omega) (by omega), wrap_i64 (by omega) (by omega)]; exact dF (by omega)
  have h3 : fullN1 (cs3 mss rate rtt j w m fn ph pa) = if fn + 1 < 3 then fn + 1 else 3 := by
    show (if IntKind.i64.wrap (fn + 1) < 3 then IntKind.i64.wrap (fn + 1) else 3) = _
    rw [wrap_i64 (by omega) (by omega)]
  have h4 : decide (fullN1 (cs3 mss rate rtt j w m fn ph pa) = 3) = decide (fn + 1 ≥ 3) := by
    rw [h3]
    by_cases h : fn + 1 < 3
    · rw [if_pos h, dF (show ¬ fn + 1 = 3 by omega), dF (show ¬ fn + 1 ≥ 3 by omega)]
    · rw [if_neg h, decide_eq_true (show (3 : Int) = 3 from rfl), decide_eq_true (show fn + 1 ≥ 3 by omega)]
  have h1' : decide (bestV (cs3 mss rate rtt j w m fn ph pa).Bw = 0) = false := h1
  have h2' : decide (IntKind.i64.wrap (4 * bestV (cs3 mss rate rtt j w m fn ph pa).Bw) ≥ IntKind.i64.wrap (5 * (cs3 mss rate rtt j w m fn ph pa).Full)) = false := h2
  unfold fullM
  simp only [h1', h2', h4, cond_false]
  simp only [h3]
  rfl
theorem full_z (E : Even mss rate rtt) : fullM (fz3 mss rate rtt) = cs3 mss rate rtt 1 (10 * mss) 1 0 0 0 := by
  have := E.r1; have := E.r2
  have h1 : decide (bestV (fz3 mss rate rtt).Bw = 0) = false := by
    have : decide (rate = 0) = false := dF (by omega)
    exact this
  have h2 : decide (IntKind.i64.wrap (4 * bestV (fz3 mss rate rtt).Bw) ≥ IntKind.i64.wrap (5 * (fz3 mss rate rtt).Full)) = true := by
    have : decide (IntKind.i64.wrap (4 * rate) ≥ IntKind.i64.wrap (5 * 0)) = true := by rw [wrap_i64 (by omega) (by omega), wrap_i64 (by omega) (by omega)]; exact decide_eq_true (by omega)
    exact this
  unfold fullM
  simp only [h1, h2, cond_false, cond_true]
  rfl

theorem outM_eq {c : CcM} {s : Sample} (h : badC c = false) (k : badS s = false) : outM c s = ackM c s ∧ outE c s = 0 := by
  unfold outM outE; rw [h, k]; exact ⟨rfl, rfl⟩

theorem step_z (E : Even mss rate rtt) : ackM (z3 mss) (e3s rate rtt 0) = cs3 mss rate rtt 1 (outW mss rate rtt (10 * mss) 0) 1 0 0 0 := by
  have := E.m1; have := E.m2
  obtain ⟨h3, hl⟩ := a3_z E
  have hf : isFull (z3 mss) (e3s rate rtt 0) = true := by rw [isFull_eq _ _ (show (0 : Int) ≤ 1000 * 0 by omega), h3]; rfl
  have h4 : a4 (z3 mss) (e3s rate rtt 0) = cs3 mss rate rtt 1 (10 * mss) 1 0 0 0 := by unfold a4; rw [CcM.mrg_eq, hf, h3]; exact full_z E
  have h5 : a5 (z3 mss) (e3s rate rtt 0) = cs3 mss rate rtt 1 (10 * mss) 1 0 0 0 := by unfold a5; rw [h4]; exact cycle_1 E
  unfold ackM a6
  rw [hl, h5, ask_none _ (show (1 : Int) ≠ 4 by omega)]
  exact window_eq E (by omega) (by omega)
theorem step_1 (E : Even mss rate rtt) {i w fn ph pa : Int} (h0 : 1 ≤ i) (h : i ≤ 11) (hf : 0 ≤ fn ∧ fn ≤ 1) (hw : 0 ≤ w ∧ w ≤ 1073741824) :
    ackM (cs3 mss rate rtt i w 1 fn ph pa) (e3s rate rtt i) = cs3 mss rate rtt (i + 1) (outW mss rate rtt w (fn + 1)) 1 (fn + 1) ph pa := by
  obtain ⟨h3, hl⟩ := a3_cs E (w := w) (m := 1) (fn := fn) (ph := ph) (pa := pa) h0 h
  have hF : isFull (cs3 mss rate rtt i w 1 fn ph pa) (e3s rate rtt i) = true := by rw [isFull_eq _ _ (show 1000 * i ≤ 1000 * i by omega), h3]; rfl
  have h4 : a4 (cs3 mss rate rtt i w 1 fn ph pa) (e3s rate rtt i) = cs3 mss rate rtt (i + 1) w 1 (fn + 1) ph pa := by
    unfold a4; rw [CcM.mrg_eq, hF, h3]
    simp only [cond_true]
    rw [full_eq E (by omega), if_pos (by omega), dF (show ¬ fn + 1 ≥ 3 by omega)]; rfl
  have h5 : a5 (cs3 mss rate rtt i w 1 fn ph pa) (e3s rate rtt i) = cs3 mss rate rtt (i + 1) w 1 (fn + 1) ph pa := by unfold a5; rw [h4]; exact cycle_1 E
  unfold ackM a6
  rw [hl, h5, ask_none _ (show (1 : Int) ≠ 4 by omega)]
  exact window_eq E (by omega) hw
theorem step_2 (E : Even mss rate rtt) {i w ph pa : Int} (h0 : 1 ≤ i) (h : i ≤ 11) (hw : 0 ≤ w ∧ w ≤ 1073741824) :
    ackM (cs3 mss rate rtt i w 1 2 ph pa) (e3s rate rtt i) = cs3 mss rate rtt (i + 1) (outW mss rate rtt w 3) 3 3 2 ((i + 1) * rtt) := by
  obtain ⟨h3, hl⟩ := a3_cs E (w := w) (m := 1) (fn := 2) (ph := ph) (pa := pa) h0 h
  have hF : isFull (cs3 mss rate rtt i w 1 2 ph pa) (e3s rate rtt i) = true := by rw [isFull_eq _ _ (show 1000 * i ≤ 1000 * i by omega), h3]; rfl
  have h4 : a4 (cs3 mss rate rtt i w 1 2 ph pa) (e3s rate rtt i) = cs3 mss rate rtt (i + 1) w 2 3 ph pa := by
    unfold a4; rw [CcM.mrg_eq, hF, h3]
    simp only [cond_true]
    rw [full_eq E (by omega)]; rfl
  have h5 : a5 (cs3 mss rate rtt i w 1 2 ph pa) (e3s rate rtt i) = cs3 mss rate rtt (i + 1) w 3 3 2 ((i + 1) * rtt) := by unfold a5; rw [h4]; exact cycle_2 E
  unfold ackM a6
  rw [hl, h5, ask_none _ (show (3 : Int) ≠ 4 by omega)]
  exact window_eq E (by omega) hw
theorem step_3 (E : Even mss rate rtt) {i w ph pa : Int} (h0 : 1 ≤ i) (h : i ≤ 11) (hw : 0 ≤ w ∧ w ≤ 1073741824) (hp : 0 ≤ ph ∧ ph ≤ 7) (ha : 0 ≤ pa ∧ pa ≤ 1125899906842624) :
    ∃ ph' pa', ackM (cs3 mss rate rtt i w 3 3 ph pa) (e3s rate rtt i) = cs3 mss rate rtt (i + 1) (outW mss rate rtt w 3) 3 3 ph' pa' ∧ (0 ≤ ph' ∧ ph' ≤ 7) ∧ (0 ≤ pa' ∧ pa' ≤ 1125899906842624) := by
  obtain ⟨h3, hl⟩ := a3_cs E (w := w) (m := 3) (fn := 3) (ph := ph) (pa := pa) h0 h
  have hF : isFull (cs3 mss rate rtt i w 3 3 ph pa) (e3s rate rtt i) = false := by rw [isFull_eq _ _ (show 1000 * i ≤ 1000 * i by omega), h3]; rfl
  have h4 : a4 (cs3 mss rate rtt i w 3 3 ph pa) (e3s rate rtt i) = cs3 mss rate rtt (i + 1) w 3 3 ph pa := by
    unfold a4; rw [CcM.mrg_eq, hF, h3]; rfl
  obtain ⟨ph', pa', h5, h6, h7⟩ := cycle_3 E (j := i + 1) (i := i) (w := w) (fn := 3) hp ha (by omega) (by omega)
  refine ⟨ph', pa', ?_, h6, h7⟩
  have h5' : a5 (cs3 mss rate rtt i w 3 3 ph pa) (e3s rate rtt i) = cs3 mss rate rtt (i + 1) w 3 3 ph' pa' := by unfold a5; rw [h4]; exact h5
  unfold ackM a6
  rw [hl, h5', ask_none _ (show (3 : Int) ≠ 4 by omega)]
  exact window_eq E (by omega) hw
end Go.Proofs

/-
  The bbr seat: BbrSteady, its spec.
-/
namespace Go.Proofs
open Go Go.Im
variable {mss rate rtt : Int}

/-- where the window stands behind so many rounds -/
def Win (mss rate rtt w : Int) : Prop := w = (if 1073741824 < tT mss rate rtt then 1073741824 else tT mss rate rtt) ∨ (w < tT mss rate rtt ∧ 10 * mss ≤ w)
inductive Inv3 (mss rate rtt : Int) : Int → CcM → Prop
  | z : Inv3 mss rate rtt 0 (z3 mss)
  | a (i w : Int) (h1 : 1 ≤ i) (h2 : i ≤ 3) (hw : 10 * mss ≤ w ∧ w ≤ 1073741824) : Inv3 mss rate rtt i (cs3 mss rate rtt i w 1 (i - 1) 0 0)
  | b (i w ph pa : Int) (h1 : 4 ≤ i) (h2 : i ≤ 12) (hw : mss ≤ w ∧ w ≤ 1073741824) (hW : Win mss rate rtt w) (hp : 0 ≤ ph ∧ ph ≤ 7) (ha : 0 ≤ pa ∧ pa ≤ 1125899906842624) : Inv3 mss rate rtt i (cs3 mss rate rtt i w 3 3 ph pa)

theorem outW_up (E : Even mss rate rtt) {w fn : Int} (hf : fn ≠ 3) (hw : 10 * mss ≤ w ∧ w ≤ 1073741824) : 10 * mss ≤ outW mss rate rtt w fn ∧ outW mss rate rtt w fn ≤ 1073741824 := by
  have hA := holdA_bound E
  have := E.m1; have := E.m2
  unfold outW winT clampM
  rw [dF hf]
  simp only [cond_false]
  generalize holdA rate rtt = a at *
  generalize tT mss rate rtt = t at *
  cases decide (w < t) <;> simp only [cond_true, cond_false] <;> (repeat' split) <;> omega
theorem outW_3 (E : Even mss rate rtt) {w : Int} (hw : mss ≤ w ∧ w ≤ 1073741824) : mss ≤ outW mss rate rtt w 3 ∧ outW mss rate rtt w 3 ≤ 1073741824 := by
  have hA := holdA_bound E
  have ht := tT_bound E
  have := E.m1; have := E.m2
  unfold outW winT clampM
  rw [decide_eq_true (show (3 : Int) = 3 from rfl)]
  simp only [cond_true]
  generalize holdA rate rtt = a at *
  generalize tT mss rate rtt = t at *
  (repeat' split) <;> omega
theorem outW_win (E : Even mss rate rtt) {w : Int} (hw : mss ≤ w ∧ w ≤ 1073741824) (h : 10 * mss ≤ w ∨ Win mss rate rtt w) : Win mss rate rtt (outW mss rate rtt w 3) := by
  have hA := holdA_bound E
  have ht := tT_bound E
  have := E.m1; have := E.m2
  unfold outW winT clampM Win at *
  rw [decide_eq_true (show (3 : Int) = 3 from rfl)]
  simp only [cond_true]
  generalize holdA rate rtt = a at *
  generalize tT mss rate rtt = t at *
  by_cases h1 : w + a < t
  · rw [if_pos h1]
    by_cases h2 : 1073741824 < w + a
    · rw [if_pos h2, if_pos (show (1073741824 : Int) > mss by omega), if_pos (show 1073741824 < t by omega)]; exact .inl rfl
    · rw [if_neg h2]
      have h3 : w + a ≥ mss := by omega
      by_cases h4 : w + a > mss
      · rw [if_pos h4]
        rcases h with h | h | h
        · right; omega
        · by_cases h5 : 1073741824 < t
          · rw [if_pos h5] at h ⊢; left; omega
          · rw [if_neg h5] at h; omega
        · right; omega
      · rw [if_neg h4]
        rcases h with h | h | h
        · right; omega
        · by_cases h5 : 1073741824 < t
          · rw [if_pos h5] at h; omega
          · rw [if_neg h5] at h; omega
        · right; omega
  · rw [if_neg h1]
    by_cases h2 : 1073741824 < t
    · rw [if_pos h2, if_pos (show (1073741824 : Int) > mss by omega)]; exact .inl rfl
    · rw [if_neg h2, if_pos (show t > mss by omega)]; exact .inl rfl

theorem inv_ok (E : Even mss rate rtt) {i : Int} {c : CcM} (h : Inv3 mss rate rtt i c) : badC c = false ∧ c.Bw.length < 4294967296 := by
  have := E.m1; have := E.m2
  cases h with
  | z => exact ⟨badC_z E, by show (0 : Nat) < 4294967296; omega⟩
  | a i w h1 h2 hw => exact ⟨badC_false E (by omega) (by omega) (by omega) (by omega) (by omega) (by omega), by show (1 : Nat) < 4294967296; omega⟩
  | b i w ph pa h1 h2 hw hW hp ha => exact ⟨badC_false E (by omega) hw (by omega) (by omega) hp ha, by show (1 : Nat) < 4294967296; omega⟩
theorem inv_step (E : Even mss rate rtt) {i : Int} {c : CcM} (h : Inv3 mss rate rtt i c) (hi : i ≤ 11) : Inv3 mss rate rtt (i + 1) (ackM c (e3s rate rtt i)) := by
  have := E.m1; have := E.m2
  cases h with
  | z =>
    rw [step_z E]
    exact .a 1 _ (by omega) (by omega) (outW_up E (by omega) (by omega))
  | a i w h1 h2 hw =>
    by_cases h3 : i ≤ 2
    · rw [step_1 E h1 hi (by omega) (by omega)]
      have : i - 1 + 1 = i + 1 - 1 := by omega
      rw [this]
      exact .a (i + 1) _ (by omega) (by omega) (outW_up E (by omega) hw)
    · obtain rfl : i = 3 := by omega
      rw [show (3 : Int) - 1 = 2 from rfl, step_2 E h1 hi (by omega)]
      have := i_rtt E (i := 3 + 1) (by omega) (by omega)
      exact .b (3 + 1) _ _ _ (by omega) (by omega) (outW_3 E (by omega)) (outW_win E (by omega) (.inl hw.1)) (by omega) (by omega)
  | b i w ph pa h1 h2 hw hW hp ha =>
    obtain ⟨ph', pa', h, hp', ha'⟩ := step_3 E (w := w) (ph := ph) (pa := pa) (show 1 ≤ i by omega) hi (by omega) hp ha
    rw [h]
    exact .b (i + 1) _ _ _ (by omega) (by omega) (outW_3 E hw) (outW_win E hw (.inr hW)) hp' ha'

theorem go3 (E : Even mss rate rtt) : ∀ (n : Nat) (i : Int) (c : CcM), i + n = 12 → 0 ≤ i → Inv3 mss rate rtt i c → goodN rate rtt (n + 1) c (1000 * i) (i + 1) = true ∧ Inv3 mss rate rtt 12 (endN rate rtt (n + 1) c (1000 * i) (i + 1))
  | 0, i, c, h, h0, hI => by
    obtain rfl : i = 12 := by omega
    exact ⟨rfl, hI⟩
  | n + 1, i, c, h, h0, hI => by
    obtain ⟨hb, hl⟩ := inv_ok E hI
    have hs := s3_eq E h0 (show i ≤ 12 by omega)
    obtain ⟨ho, he⟩ := outM_eq hb (badS_false E h0 (show i ≤ 12 by omega))
    have h1 : decide (i + 1 ≤ 12) = true := decide_eq_true (by omega)
    have h2 : Nat.blt c.Bw.length 4294967296 = true := by simpa [Nat.blt_eq] using hl
    have h3 : IntKind.i64.wrap (1000 * i + 1000) = 1000 * (i + 1) := by rw [wrap_i64 (by omega) (by omega)]; omega
    have h4 : IntKind.i64.wrap (i + 1 + 1) = i + 1 + 1 := wrap_i64 (by omega) (by omega)
    have h5 : decide (outE c (e3s rate rtt i) = 0) = true := decide_eq_true he
    obtain ⟨ih1, ih2⟩ := go3 E n (i + 1) _ (by omega) (by omega) (inv_step E hI (by omega))
    constructor
    · unfold goodN
      rw [h1, hs, h5, h2, ho, h3, h4]
      exact ih1
    · unfold endN
      rw [h1, hs, ho, h3, h4]
      exact ih2

theorem law3p (E : Even mss rate rtt) : k3 mss rate rtt = true ∧ res3 mss rate rtt (e3 mss rate rtt) = true := by
  have := E.m1; have := E.m2
  have hN : badN mss 10 = false := by
    have h1 : decide (mss < 1) = false := dF (by omega)
    have h2 : decide (mss > 65000) = false := dF (by omega)
    unfold badN; rw [h1, h2]; rfl
  have hz : bnewM mss 10 = z3 mss := by
    unfold bnewM newM
    rw [hN, wrap_i64 (by omega) (by omega), Int.mul_comm]; rfl
  obtain ⟨hg, hI⟩ := go3 E 12 0 (z3 mss) (by omega) (by omega) .z
  have hg' : goodN rate rtt 13 (bnewM mss 10) 0 1 = true := by rw [hz]; exact hg
  have he : e3 mss rate rtt = endN rate rtt 13 (z3 mss) (1000 * 0) (0 + 1) := by unfold e3; rw [hz]; rfl
  rw [← he] at hI
  have hl : lenOk (e3 mss rate rtt).Bw.length = true := Nat.ble_eq_true_of_le (by have := (inv_ok E hI).2; omega)
  refine ⟨by unfold k3; rw [hg', hl]; rfl, ?_⟩
  obtain ⟨hb, -⟩ := inv_ok E hI
  generalize e3 mss rate rtt = c at *
  have hP := pP_bound E
  have hw : want3 mss c = tT mss rate rtt ∧ c.FullN = 3 ∧ c.Mode = 3 ∧ bestV c.Bw = rate ∧ c.MinRtt = rtt ∧ Win mss rate rtt c.Cwnd := by
    generalize hk : (12 : Int) = k at hI
    cases hI with
    | z => omega
    | a i w h1 h2 hw => omega
    | b i w ph pa h1 h2 hw hW hp ha =>
      refine ⟨?_, rfl, rfl, rfl, rfl, hW⟩
      unfold want3 tT
      rw [hb, productM_eq (rate := rate) (rtt := rtt) rfl rfl]
      simp only [cond_false]
      rw [wrap_i64 (by omega) (by omega), wrap_i64 (by omega) (by omega)]
      by_cases h : 2 * pP rate rtt > 4 * mss
      · rw [if_pos h, if_neg (by omega)]
      · rw [if_neg h]
        by_cases h' : 4 * mss > 2 * pP rate rtt
        · rw [if_pos h']
        · rw [if_neg h']; omega
  obtain ⟨h1, h2, h3, h4, h5, h6⟩ := hw
  unfold res3
  rw [h1, hb, wrap_i64 (by omega) (by omega)]
  simp only [cond_false]
  refine bAnd_mk (bAnd_mk (bAnd_mk (bAnd_mk (bAnd_mk (decide_eq_true h2) (decide_eq_true h3)) (decide_eq_true h4)) (decide_eq_true h5)) ?_) rfl
  rcases h6 with h6 | h6
  · rw [decide_eq_true h6]; rfl
  · rw [bAnd_mk (decide_eq_true h6.1) (decide_eq_true (show c.Cwnd ≥ 10 * mss from h6.2))]
    exact bOr_true _

def S3 : FSpec := fun args bxs => match args, bxs with | [.int .i64 _, .int .i64 _, .int .i64 _], [] => some (true, .bool true, []) | _, _ => none
theorem has3 : Has 3 S3 := has_of (l := G3) (L := L3) g3 Try.func3 rfl (by kernel_rfl) (lok_one (b := loopAt Try.f3 0) (f := F3) (by kernel_rfl) (by kernel_rfl) (law3 L3)) (fun args bxs v bxs' h => by
  unfold S3 at h
  split at h <;> simp only [Option.some.injEq, Prod.mk.injEq, reduceCtorEq] at h
  obtain ⟨-, rfl, rfl⟩ := h
  rename_i mss rate rtt
  refine ⟨Nat.le_of_ble_eq_true (by kernel_rfl), _, run3 mss rate rtt, ?_⟩
  cases ho : out3 mss rate rtt with
  | true => exact ⟨rfl, .refl _, leB_refl _⟩
  | false =>
    unfold out3 at ho
    obtain ⟨ho, h6⟩ := bOr_false ho
    obtain ⟨ho, h5⟩ := bOr_false ho
    obtain ⟨ho, h4⟩ := bOr_false ho
    obtain ⟨ho, h3⟩ := bOr_false ho
    obtain ⟨h1, h2⟩ := bOr_false ho
    have h1 := of_decide_eq_false h1
    have h2 := of_decide_eq_false h2
    have h3 := of_decide_eq_false h3
    have h4 := of_decide_eq_false h4
    have h5 := of_decide_eq_false h5
    have h6 := of_decide_eq_false h6
    have E : Even mss rate rtt := ⟨by omega, by omega, by omega, by omega, by omega, by omega⟩
    have hN : badN mss 10 = false := by
      have h1 : decide (mss < 1) = false := dF (by omega)
      have h2 : decide (mss > 65000) = false := dF (by omega)
      unfold badN; rw [h1, h2]; rfl
    obtain ⟨k, r⟩ := law3p E
    rw [hN, k, r]
    exact ⟨rfl, .refl _, leB_refl _⟩) (fun h => by cases h)
end Go.Proofs
