/-
  The cc seat: what cc's functions compute.
-/
import Derived.Test.YtanjpdkglocjpaaMI

namespace Go.Proofs
open Go Go.Im

abbrev Gc11 : List (Nat × FSpec) := [(17, S17c), (18, SB szB), (24, SB tmB), (25, S7), (26, S26c), (27, S27c)]
theorem gc11 : ∀ p ∈ Gc11, Has p.1 p.2 := by
  intro p hp
  simp only [Gc11, List.mem_cons, List.not_mem_nil, or_false] at hp
  rcases hp with rfl | rfl | rfl | rfl | rfl | rfl
  · exact hasc17
  · exact hasc18
  · exact hasc24
  · exact has7
  · exact hasc26
  · exact hasc27
def okAck (s : Sample) (srtt : Int) : Bool := bAnd (bAnd (szB s.Acked) (tmB s.Now)) (tmB srtt)
abbrev kL (c : CcM) : Bool := andB true (lenOk c.Bw.length)
theorem runc11 (c : CcM) (s : Sample) (srtt : Int) : runF (bbC Gc11 fun _ => none) Try.f11 [.agg (ccCells c), .agg (sCells s), .i64 srtt] [] =
    bif decide (c.Kind = 3) then ⟨andB true (Nat.blt c.Bw.length 4294967296), .tup [.agg (ccCells (outM c s)), .i64 (outE c s)], []⟩ else
    bif !decide (askE c (okAck s srtt) = 0) then ⟨kL c, .tup [.agg ccZcells, .i64 (askE c (okAck s srtt))], []⟩ else
    bif decide (c.Kind = 1) then ⟨kL c, .tup [.agg (ccCells (rAck c s.Acked s.Idle)), .i64 (begE c s.Acked)], []⟩ else
    ⟨kL c, .tup [.agg (ccCells (q27 c s.Acked s.Now srtt s.Idle)), .i64 (e27 c s.Acked s.Now srtt)], []⟩ := by kernel_rfl
abbrev Gc6 : List (Nat × FSpec) := [(17, S17c), (18, SB szB), (19, SN rLoss begE), (20, SN qLoss mvE), (21, SN rTo begE), (22, SN qTo mvE), (23, S11), (12, S12c), (24, SB tmB)]
theorem gc6 : ∀ p ∈ Gc6, Has p.1 p.2 := by
  intro p hp
  simp only [Gc6, List.mem_cons, List.not_mem_nil, or_false] at hp
  rcases hp with rfl | rfl | rfl | rfl | rfl | rfl | rfl | rfl | rfl
  · exact hasc17
  · exact hasc18
  · exact hasc19
  · exact hasc20
  · exact hasc21
  · exact hasc22
  · exact has11
  · exact hasc12
  · exact hasc24
theorem runc6 (c : CcM) (n : Int) : runF (bbC Gc6 fun _ => none) Try.f6 [.agg (ccCells c), .i64 n] [] =
    bif !decide (askE c (szB n) = 0) then ⟨kL c, .tup [.agg ccZcells, .i64 (askE c (szB n))], []⟩ else
    bif decide (c.Kind = 1) then ⟨kL c, .tup [.agg (ccCells (rLoss c n)), .i64 (begE c n)], []⟩ else
    bif decide (c.Kind = 2) then ⟨kL c, .tup [.agg (ccCells (qLoss c n)), .i64 (mvE c n)], []⟩ else ⟨kL c, .tup [.agg (ccCells c), .i64 0], []⟩ := by kernel_rfl
theorem runc7 (c : CcM) (n : Int) : runF (bbC Gc6 fun _ => none) Try.f7 [.agg (ccCells c), .i64 n] [] =
    bif decide (c.Kind = 1) then ⟨true, .tup [.agg (ccCells (rTo c n)), .i64 (begE c n)], []⟩ else
    bif decide (c.Kind = 2) then ⟨true, .tup [.agg (ccCells (qTo c n)), .i64 (mvE c n)], []⟩ else ⟨kL c, .tup [.agg (ccCells (tM c n)), .i64 (tE c n)], []⟩ := by kernel_rfl
theorem runc10 (c : CcM) (n : Int) : runF (bbC Gc6 fun _ => none) Try.f10 [.agg (ccCells c), .i64 n] [] =
    bif !decide (askE c (szB n) = 0) then ⟨kL c, .tup [.agg ccZcells, .i64 (askE c (szB n))], []⟩ else
    ⟨kL c, .tup [.agg (ccCells { c with Cwnd := max64 c.Mss n }), .i64 0], []⟩ := by kernel_rfl
def errA (c : CcM) : Int := bif badA c then 230 else 0
theorem runc8 (c : CcM) : runF (bbC Gc6 fun _ => none) Try.f8 [.agg (ccCells c)] [] =
    bif !decide (errA c = 0) then ⟨kL c, .tup [.agg ccZcells, .i64 (errA c)], []⟩ else
    bif decide (c.Kind = 2) then ⟨kL c, .tup [.agg (ccCells { c with Cwnd := c.Ssthresh }), .i64 0], []⟩ else
    bif decide (c.Kind = 1) then ⟨kL c, .tup [.agg (ccCells { c with Cwnd := c.Ssthresh }), .i64 0], []⟩ else ⟨kL c, .tup [.agg (ccCells c), .i64 0], []⟩ := by kernel_rfl
def okR (idle rto used : Int) : Bool := bAnd (bAnd (tmB idle) (tmB rto)) (szB used)
def stopR (c : CcM) (idle rto : Int) : Bool := bOr (bOr (decide (c.Kind = 3)) (decide (rto = 0))) (decide (idle ≤ rto))
def rsS (c : CcM) : CcM := { c with Ssthresh := max64 c.Ssthresh (IntKind.i64.wrap ((IntKind.i64.wrap (3 * c.Cwnd)).tdiv 4)) }
def shR (idle rto : Int) : Int := min64 20 (IntKind.i64.wrap (idle.tdiv rto))
def rsW (c : CcM) (idle rto : Int) : Int := c.Cwnd.fdiv (2 ^ min (shR idle rto).toNat 64)
def restM (c : CcM) (idle rto used : Int) : CcM := { rsS c with Cwnd := min64 c.Cwnd (max64 (max64 (rsW c idle rto) used) (IntKind.i64.wrap (2 * c.Mss))) }
theorem runc9 (c : CcM) (idle rto used : Int) : runF (bbC Gc6 fun _ => none) Try.f9 [.agg (ccCells c), .i64 idle, .i64 rto, .i64 used] [] =
    bif !decide (askE c (okR idle rto used) = 0) then ⟨kL c, .tup [.agg ccZcells, .i64 (askE c (okR idle rto used))], []⟩ else
    bif stopR c idle rto then ⟨kL c, .tup [.agg (ccCells c), .i64 0], []⟩ else
    ⟨andB (andB (kL c) (!(rto == 0))) (decide (0 ≤ shR idle rto)), .tup [.agg (ccCells (restM c idle rto used)), .i64 0], []⟩ := by kernel_rfl

end Go.Proofs

/-
  The cc seat: the specs of cc's functions; Pace.
-/
namespace Go.Proofs
open Go Go.Im

def lb (c : CcM) : Bool := Nat.blt c.Bw.length 4294967296
theorem lb_ok {c : CcM} (h : lb c = true) : lenOk c.Bw.length = true := by
  have : c.Bw.length < 4294967296 := by simpa [lb, Nat.blt_eq] using h
  exact Nat.ble_eq_true_of_le (by omega)
/-- a function of the controller and a number, where the entries are not too many -/
def SL (out : CcM → Int → CcM) (e : CcM → Int → Int) : FSpec := fun args bxs => match args, bxs with | [.agg cs, .int .i64 n], [] => (match decCcW cs with | some c => some (lb c, .tup [.agg (ccCells (out c n)), .i64 (e c n)], []) | none => none) | _, _ => none
theorem SL_inv {out : CcM → Int → CcM} {e : CcM → Int → Int} {args : List PVal} {bxs : List (List PVal)} {v : PVal} {bxs' : List (List PVal)} (h : SL out e args bxs = some (true, v, bxs')) :
    ∃ cs n c, args = [.agg cs, .i64 n] ∧ bxs = [] ∧ decCcW cs = some c ∧ lb c = true ∧ v = .tup [.agg (ccCells (out c n)), .i64 (e c n)] ∧ bxs' = [] := by
  unfold SL at h
  split at h <;> (try (cases h; done))
  rename_i cs n
  split at h <;> (try (cases h; done))
  rename_i c hc
  simp only [Option.some.injEq, Prod.mk.injEq] at h
  obtain ⟨h1, rfl, rfl⟩ := h
  exact ⟨cs, n, c, rfl, rfl, hc, h1, rfl, rfl⟩
theorem askE_dec (c : CcM) (b : Bool) : (!decide (askE c b = 0)) = bOr (badA c) (!b) := by unfold askE; cases badA c <;> cases b <;> rfl
theorem leZt (e : Int) : LeV (.tup [.agg (ccCells ccZ), .i64 e]) (.tup [.agg ccZcells, .i64 e]) := leV_tup (leL_cons (leV_agg leZ) (leL_refl _))

def lossA (c : CcM) (n : Int) : CcM := bif bOr (badA c) (!szB n) then ccZ else bif decide (c.Kind = 1) then rLoss c n else bif decide (c.Kind = 2) then qLoss c n else c
def lossE (c : CcM) (n : Int) : Int := bif bOr (badA c) (!szB n) then askE c (szB n) else bif decide (c.Kind = 1) then begE c n else bif decide (c.Kind = 2) then mvE c n else 0
theorem hasc6 : Has 6 (SL lossA lossE) := has_of2 (l := Gc6) (L := fun _ => none) gc6 Try.func6 rfl (by kernel_rfl) (lok_none (by kernel_rfl)) (fun args bxs v bxs' h => by
  obtain ⟨cs, n, c, rfl, rfl, hd, hl, rfl, rfl⟩ := SL_inv h
  refine ⟨[.agg (ccCells c), .i64 n], [], leL_cons (leV_agg (decCcW_le hd)) (leL_refl _), leB_nil, Nat.le_of_ble_eq_true (by kernel_rfl), _, runc6 c n, ?_⟩
  rw [askE_dec]
  unfold kL lossA lossE
  rw [lb_ok hl]
  cases bOr (badA c) (!szB n) <;> cases decide (c.Kind = 1) <;> cases decide (c.Kind = 2) <;> first | exact ⟨rfl, .refl _, leB_refl _⟩ | exact ⟨rfl, leZt _, leB_refl _⟩) (fun h => by cases h)
def toA (c : CcM) (n : Int) : CcM := bif decide (c.Kind = 1) then rTo c n else bif decide (c.Kind = 2) then qTo c n else tM c n
def toE (c : CcM) (n : Int) : Int := bif decide (c.Kind = 1) then begE c n else bif decide (c.Kind = 2) then mvE c n else tE c n
theorem hasc7 : Has 7 (SL toA toE) := has_of2 (l := Gc6) (L := fun _ => none) gc6 Try.func7 rfl (by kernel_rfl) (lok_none (by kernel_rfl)) (fun args bxs v bxs' h => by
  obtain ⟨cs, n, c, rfl, rfl, hd, hl, rfl, rfl⟩ := SL_inv h
  refine ⟨[.agg (ccCells c), .i64 n], [], leL_cons (leV_agg (decCcW_le hd)) (leL_refl _), leB_nil, Nat.le_of_ble_eq_true (by kernel_rfl), _, runc7 c n, ?_⟩
  unfold kL toA toE
  rw [lb_ok hl]
  cases decide (c.Kind = 1) <;> cases decide (c.Kind = 2) <;> exact ⟨rfl, .refl _, leB_refl _⟩) (fun h => by cases h)
def limA (c : CcM) (n : Int) : CcM := bif bOr (badA c) (!szB n) then ccZ else { c with Cwnd := max64 c.Mss n }
def limE (c : CcM) (n : Int) : Int := bif bOr (badA c) (!szB n) then askE c (szB n) else 0
theorem hasc10 : Has 10 (SL limA limE) := has_of2 (l := Gc6) (L := fun _ => none) gc6 Try.func10 rfl (by kernel_rfl) (lok_none (by kernel_rfl)) (fun args bxs v bxs' h => by
  obtain ⟨cs, n, c, rfl, rfl, hd, hl, rfl, rfl⟩ := SL_inv h
  refine ⟨[.agg (ccCells c), .i64 n], [], leL_cons (leV_agg (decCcW_le hd)) (leL_refl _), leB_nil, Nat.le_of_ble_eq_true (by kernel_rfl), _, runc10 c n, ?_⟩
  rw [askE_dec]
  unfold kL limA limE
  rw [lb_ok hl]
  cases bOr (badA c) (!szB n) <;> first | exact ⟨rfl, .refl _, leB_refl _⟩ | exact ⟨rfl, leZt _, leB_refl _⟩) (fun h => by cases h)

def doneA (c : CcM) : CcM := bif badA c then ccZ else bif decide (c.Kind = 2) then { c with Cwnd := c.Ssthresh } else bif decide (c.Kind = 1) then { c with Cwnd := c.Ssthresh } else c
def S8c : FSpec := fun args bxs => match args, bxs with | [.agg cs], [] => (match decCcW cs with | some c => some (lb c, .tup [.agg (ccCells (doneA c)), .i64 (errA c)], []) | none => none) | _, _ => none
theorem errA_dec (c : CcM) : (!decide (errA c = 0)) = badA c := by unfold errA; cases badA c <;> rfl
theorem hasc8 : Has 8 S8c := has_of2 (l := Gc6) (L := fun _ => none) gc6 Try.func8 rfl (by kernel_rfl) (lok_none (by kernel_rfl)) (fun args bxs v bxs' h => by
  unfold S8c at h
  split at h <;> (try (cases h; done))
  rename_i cs
  cases hd : decCcW cs with
  | none => rw [hd] at h; cases h
  | some c =>
    rw [hd] at h
    simp only [Option.some.injEq, Prod.mk.injEq] at h
    obtain ⟨hl, rfl, rfl⟩ := h
    refine ⟨[.agg (ccCells c)], [], leL_cons (leV_agg (decCcW_le hd)) leL_nil, leB_nil, Nat.le_of_ble_eq_true (by kernel_rfl), _, runc8 c, ?_⟩
    rw [errA_dec]
    unfold kL doneA errA
    rw [lb_ok hl]
    cases badA c <;> cases decide (c.Kind = 1) <;> cases decide (c.Kind = 2) <;> first | exact ⟨rfl, .refl _, leB_refl _⟩ | exact ⟨rfl, leZt _, leB_refl _⟩) (fun h => by cases h)

def restA (c : CcM) (idle rto used : Int) : CcM := bif bOr (badA c) (!okR idle rto used) then ccZ else bif stopR c idle rto then c else restM c idle rto used
def restE (c : CcM) (idle rto used : Int) : Int := bif bOr (badA c) (!okR idle rto used) then askE c (okR idle rto used) else 0
def S9c : FSpec := fun args bxs => match args, bxs with
  | [.agg cs, .int .i64 idle, .int .i64 rto, .int .i64 used], [] => (match decCcW cs with | some c => some (lb c, .tup [.agg (ccCells (restA c idle rto used)), .i64 (restE c idle rto used)], []) | none => none)
  | _, _ => none
theorem bAnd_true' {x y : Bool} (h : bAnd x y = true) : x = true ∧ y = true := by cases x <;> cases y <;> simp_all [bAnd]
theorem bOr_false' {x y : Bool} (h : bOr x y = false) : x = false ∧ y = false := by cases x <;> cases y <;> simp_all [bOr]
theorem tmB_iff {n : Int} (h : tmB n = true) : 0 ≤ n ∧ n ≤ 1125899906842624 := by
  obtain ⟨h1, h2⟩ := bAnd_true' h
  exact ⟨of_decide_eq_true h1, of_decide_eq_true h2⟩
theorem szB_iff {n : Int} (h : szB n = true) : 0 ≤ n ∧ n ≤ 1073741824 := by
  obtain ⟨h1, h2⟩ := bAnd_true' h
  exact ⟨of_decide_eq_true h1, of_decide_eq_true h2⟩
theorem rest_ok {c : CcM} {idle rto used : Int} (h : bOr (badA c) (!okR idle rto used) = false) (k : stopR c idle rto = false) : (!(rto == 0)) = true ∧ decide (0 ≤ shR idle rto) = true := by
  have h2 : okR idle rto used = true := by simpa using (bOr_false' h).2
  obtain ⟨h3, -⟩ := bAnd_true' h2
  obtain ⟨h4, h5⟩ := bAnd_true' h3
  have a := tmB_iff h4
  have b := tmB_iff h5
  obtain ⟨k1, k2⟩ := bOr_false' k
  obtain ⟨-, k3⟩ := bOr_false' k1
  have hr : rto ≠ 0 := of_decide_eq_false k3
  refine ⟨by simpa using hr, decide_eq_true ?_⟩
  have hq : 0 ≤ idle / rto := Int.ediv_nonneg a.1 b.1
  have hq2 : idle / rto ≤ idle := Int.ediv_le_self _ a.1
  unfold shR min64
  rw [Int.tdiv_eq_ediv_of_nonneg a.1, wrap_i64 (by omega) (by omega)]
  split <;> omega
theorem hasc9 : Has 9 S9c := has_of2 (l := Gc6) (L := fun _ => none) gc6 Try.func9 rfl (by kernel_rfl) (lok_none (by kernel_rfl)) (fun args bxs v bxs' h => by
  unfold S9c at h
  split at h <;> (try (cases h; done))
  rename_i cs idle rto used
  cases hd : decCcW cs with
  | none => rw [hd] at h; cases h
  | some c =>
    rw [hd] at h
    simp only [Option.some.injEq, Prod.mk.injEq] at h
    obtain ⟨hl, rfl, rfl⟩ := h
    refine ⟨[.agg (ccCells c), .i64 idle, .i64 rto, .i64 used], [], leL_cons (leV_agg (decCcW_le hd)) (leL_refl _), leB_nil, Nat.le_of_ble_eq_true (by kernel_rfl), _, runc9 c idle rto used, ?_⟩
    rw [askE_dec]
    unfold kL restA restE
    rw [lb_ok hl]
    cases h1 : bOr (badA c) (!okR idle rto used) with
    | true => exact ⟨rfl, leZt _, leB_refl _⟩
    | false =>
      cases h2 : stopR c idle rto with
      | true => exact ⟨rfl, .refl _, leB_refl _⟩
      | false =>
        obtain ⟨e1, e2⟩ := rest_ok h1 h2
        rw [e1, e2]
        exact ⟨rfl, .refl _, leB_refl _⟩) (fun h => by cases h)

def ackA (c : CcM) (s : Sample) (srtt : Int) : CcM := bif decide (c.Kind = 3) then outM c s else bif bOr (badA c) (!okAck s srtt) then ccZ else bif decide (c.Kind = 1) then rAck c s.Acked s.Idle else q27 c s.Acked s.Now srtt s.Idle
def ackE (c : CcM) (s : Sample) (srtt : Int) : Int := bif decide (c.Kind = 3) then outE c s else bif bOr (badA c) (!okAck s srtt) then askE c (okAck s srtt) else bif decide (c.Kind = 1) then begE c s.Acked else e27 c s.Acked s.Now srtt
def S11a : FSpec := fun args bxs => match args, bxs with
  | [.agg cs, .agg ss, .int .i64 srtt], [] => (match decCcW cs, decS ss with | some c, some s => some (lb c, .tup [.agg (ccCells (ackA c s srtt)), .i64 (ackE c s srtt)], []) | _, _ => none)
  | _, _ => none
theorem hasc11 : Has 11 S11a := has_of2 (l := Gc11) (L := fun _ => none) gc11 Try.func11 rfl (by kernel_rfl) (lok_none (by kernel_rfl)) (fun args bxs v bxs' h => by
  unfold S11a at h
  split at h <;> (try (cases h; done))
  rename_i cs ss srtt
  split at h <;> (try (cases h; done))
  rename_i c s hd hs
  simp only [Option.some.injEq, Prod.mk.injEq] at h
  obtain ⟨hl, rfl, rfl⟩ := h
  obtain rfl := decS_eq hs
  refine ⟨[.agg (ccCells c), .agg (sCells s), .i64 srtt], [], leL_cons (leV_agg (decCcW_le hd)) (leL_refl _), leB_nil, Nat.le_of_ble_eq_true (by kernel_rfl), _, runc11 c s srtt, ?_⟩
  rw [askE_dec]
  have hl' : Nat.blt c.Bw.length 4294967296 = true := hl
  unfold kL ackA ackE
  rw [lb_ok hl, hl']
  cases decide (c.Kind = 3) <;> cases bOr (badA c) (!okAck s srtt) <;> cases decide (c.Kind = 1) <;> first | exact ⟨rfl, .refl _, leB_refl _⟩ | exact ⟨rfl, leZt _, leB_refl _⟩) (fun h => by cases h)

/-! ### Pace -/
abbrev Gc13 : List (Nat × FSpec) := [(12, S12c), (31, S12), (32, S9), (33, S28)]
theorem gc13 : ∀ p ∈ Gc13, Has p.1 p.2 := by
  intro p hp
  simp only [Gc13, List.mem_cons, List.not_mem_nil, or_false] at hp
  rcases hp with rfl | rfl | rfl | rfl
  · exact hasc12
  · exact has12
  · exact has9
  · exact has28
def paG (c : CcM) : Int := bif decide (c.Kind = 3) then 289 else bif decide (c.Cwnd < c.Ssthresh) then 200 else 120
def paR0 (c : CcM) : Int := bif decide (c.Kind = 3) then IntKind.i64.wrap ((IntKind.i64.wrap ((bif badC c then 0 else gain1 c) * (bif badC c then 0 else bestV c.Bw))).tdiv 100) else 0
def paT (srtt : Int) : Int := bif decide (min64 srtt 1125899906842624 < 1) then 1000 else min64 srtt 1125899906842624
def paR (c : CcM) (srtt : Int) : Int := bif decide (paR0 c = 0) then mdV c.Cwnd (IntKind.i64.wrap (paG c * 1000000)) (IntKind.i64.wrap (100 * paT srtt)) else paR0 c
def paM (c : CcM) (srtt floor : Int) : Int := min64 1099511627776 (max64 (max64 1 floor) (paR c srtt))
theorem runc13 (c : CcM) (srtt floor : Int) : runF (bbC Gc13 fun _ => none) Try.f13 [.agg (ccCells c), .i64 srtt, .i64 floor] [] =
    bif !decide ((bif badA c then 230 else 0 : Int) = 0) then ⟨kL c, .i64 0, []⟩ else
    ⟨andB (kL c) (mergeOk (decide (c.Kind = 3)) (andB (andB true (lenOk c.Bw.length)) (lenOk c.Bw.length)) true), .i64 (paM c srtt floor), []⟩ := by kernel_rfl

def S13c : FSpec := fun args bxs => match args, bxs with
  | [.agg cs, .int .i64 srtt, .int .i64 floor], [] => (match decCcW cs with | some c => some (lb c, .i64 (bif badA c then 0 else paM c srtt floor), []) | none => none)
  | _, _ => none
theorem hasc13 : Has 13 S13c := has_of2 (l := Gc13) (L := fun _ => none) gc13 Try.func13 rfl (by kernel_rfl) (lok_none (by kernel_rfl)) (fun args bxs v bxs' h => by
  unfold S13c at h
  split at h <;> (try (cases h; done))
  rename_i cs srtt floor
  cases hd : decCcW cs with
  | none => rw [hd] at h; cases h
  | some c =>
    rw [hd] at h
    simp only [Option.some.injEq, Prod.mk.injEq] at h
    obtain ⟨hl, rfl, rfl⟩ := h
    refine ⟨[.agg (ccCells c), .i64 srtt, .i64 floor], [], leL_cons (leV_agg (decCcW_le hd)) (leL_refl _), leB_nil, Nat.le_of_ble_eq_true (by kernel_rfl), _, runc13 c srtt floor, ?_⟩
    rw [decE _ _ (by omega)]
    unfold kL
    rw [lb_ok hl]
    cases badA c <;> cases decide (c.Kind = 3) <;> exact ⟨rfl, .refl _, leB_refl _⟩) (fun h => by cases h)

abbrev Gc5 : List (Nat × FSpec) := [(4, S4c), (9, S9c), (12, S12c), (13, S13c)]
theorem gc5 : ∀ p ∈ Gc5, Has p.1 p.2 := by
  intro p hp
  simp only [Gc5, List.mem_cons, List.not_mem_nil, or_false] at hp
  rcases hp with rfl | rfl | rfl | rfl
  · exact hasc4
  · exact hasc9
  · exact hasc12
  · exact hasc13
theorem runc5 : runF (bbC Gc5 fun _ => none) Try.f5 [] [] = ⟨true, .bool true, []⟩ := by kernel_rfl
def S5c : FSpec := fun args bxs => match args, bxs with | [], [] => some (true, .bool true, []) | _, _ => none
theorem hasc5 : Has 5 S5c := has_of (l := Gc5) (L := fun _ => none) gc5 Try.func5 rfl (by kernel_rfl) (lok_none (by kernel_rfl)) (fun args bxs v bxs' h => by
  unfold S5c at h
  split at h <;> simp only [Option.some.injEq, Prod.mk.injEq, reduceCtorEq] at h
  obtain ⟨-, rfl, rfl⟩ := h
  exact ⟨Nat.le_of_ble_eq_true (by kernel_rfl), _, runc5, rfl, .refl _, leB_refl _⟩) (fun h => by cases h)

end Go.Proofs

/-
  The cc seat: CcStays, the loop.
-/
namespace Go.Proofs
open Go Go.Im

abbrev Gc3 : List (Nat × FSpec) := [(4, S4c), (5, S5c), (6, SL lossA lossE), (7, SL toA toE), (8, S8c), (9, S9c), (10, SL limA limE), (11, S11a), (12, S12c), (13, S13c)]
theorem gc3 : ∀ p ∈ Gc3, Has p.1 p.2 := by
  intro p hp
  simp only [Gc3, List.mem_cons, List.not_mem_nil, or_false] at hp
  rcases hp with rfl | rfl | rfl | rfl | rfl | rfl | rfl | rfl | rfl | rfl
  · exact hasc4
  · exact hasc5
  · exact hasc6
  · exact hasc7
  · exact hasc8
  · exact hasc9
  · exact hasc10
  · exact hasc11
  · exact hasc12
  · exact hasc13
def sZ : Sample := ⟨0, 0, 0, 0, false, 0, 0, 0⟩
/-- at the loop's head: 0 kind, 1 mss, 2 l, 3 what, 9 c's box (112), 11 i -/
abbrev T3c (k mss i : Int) (o o2 : Bool) (l : List Sample) (wh : List Int) : List (Nat × PVal) := [(0, .i64 k), (1, .i64 mss), (2, .slice .sample o l), (3, .slice .i64 o2 wh), (9, .ptr 112 0), (11, .i64 i)]
abbrev B3c (c : CcM) : List (Nat × Option (List PVal)) := [(112, some (ccCells c))]
def smp (l : List Sample) (i : Int) : Sample := l.getD i.toNat sZ
def whW (wh : List Int) (i : Int) : Int := bitsOp .i64 .and (wh.getD i.toNat 0) 7
def cS (l : List Sample) (i : Int) : Bool := decide (0 ≤ i) && decide (i < l.length)
def cW (l : List Int) (i : Int) : Bool := decide (0 ≤ i) && decide (i < l.length)
def paV (d : CcM) (s : Sample) : Int := bif badA d then 0 else paM d s.Rtt 7
def badD (k mss : Int) (d : CcM) : Bool := bOr (bOr (bOr (bOr (!decide (errA d = 0)) (decide (d.Cwnd < mss))) (decide (d.Cwnd > 1073741824))) (!decide (d.Kind = k))) (!decide (d.Mss = mss))
def badP (r : Int) : Bool := bOr (decide (r < 7)) (decide (r > 1099511627776))
def endR (kr : St → Res) (b ok : Bool) : Res := kr (headSt [(8, .bool b)] [] 400 179 ok)
def tail3 (k mss i : Int) (o o2 : Bool) (l : List Sample) (wh : List Int) (kn kr : St → Res) (d : CcM) (e : Int) (ok : Bool) : Res :=
  bif !decide (e = 0) then endR kr (bAnd (decide (e = 2)) true) ok else
  bif badD k mss d then endR kr false (andB ok (lenOk d.Bw.length)) else
  bif badP (paV d (smp l i)) then endR kr false (andB (andB (andB ok (lenOk d.Bw.length)) (cS l i)) (lb d)) else
  kn (headSt (T3c k mss (IntKind.i64.wrap (i + 1)) o o2 l wh) (B3c d) 400 179 (andB (andB (andB ok (lenOk d.Bw.length)) (cS l i)) (lb d)))
def w567 (w : Int) : Bool := bif decide (w = 5) then decide (w = 5) else bif decide (w = 6) then decide (w = 6) else decide (w = 7)
def dW (l : List Sample) (i w : Int) (c : CcM) : CcM :=
  CcM.mrg (decide (w = 0)) (lossA c (smp l i).Flight) (CcM.mrg (decide (w = 1)) (toA c (smp l i).Flight) (CcM.mrg (decide (w = 2)) (doneA c) (CcM.mrg (decide (w = 3)) (restA c (smp l i).Now (smp l i).Rtt (smp l i).Flight)
    (CcM.mrg (decide (w = 4)) (limA c (smp l i).Flight) (CcM.mrg (w567 w) (ackA c (smp l i) (smp l i).Rtt) c)))))
def eW (l : List Sample) (i w : Int) (c : CcM) : Int :=
  bif decide (w = 0) then lossE c (smp l i).Flight else bif decide (w = 1) then toE c (smp l i).Flight else bif decide (w = 2) then errA c else bif decide (w = 3) then restE c (smp l i).Now (smp l i).Rtt (smp l i).Flight else
    bif decide (w = 4) then limE c (smp l i).Flight else bif w567 w then ackE c (smp l i) (smp l i).Rtt else 0
def kW (l : List Sample) (i w : Int) (c : CcM) : Bool :=
  mergeOk (decide (w = 0)) (andB (andB true (cS l i)) (lb c)) (andB true (mergeOk (decide (w = 1)) (andB (andB true (cS l i)) (lb c)) (andB true (mergeOk (decide (w = 2)) (andB true (lb c)) (andB true (mergeOk (decide (w = 3)) (andB (andB (andB (andB true (cS l i)) (cS l i)) (cS l i)) (lb c))
    (andB true (mergeOk (decide (w = 4)) (andB (andB true (cS l i)) (lb c)) (andB true (mergeOk (w567 w) (andB (andB (andB true (cS l i)) (cS l i)) (lb c)) true))))))))))
theorem round3c (L : Nat → Option LSpec) (k mss i : Int) (o o2 : Bool) (l : List Sample) (wh : List Int) (c : CcM) (ok : Bool) (kn : St → Res) (kx : Nat → St → Res) (kr : St → Res) :
    exec (bbC Gc3 L) (loopAt Try.f3 0) (fun s => kn (norm [0, 1, 2, 3, 9, 11] [112] 400 s)) (fun i s => kx i (norm [8] [] 400 s)) (fun s => kr (norm [8] [] 400 s)) (headSt (T3c k mss i o o2 l wh) (B3c c) 400 179 ok) =
    bif decide (i < l.length) then
      tail3 k mss i o o2 l wh kn kr (dW l i (whW wh i) c) (eW l i (whW wh i) c) (andB (andB ok (cW wh i)) (kW l i (whW wh i) c))
    else kx 0 (headSt [(8, .undef)] [] 400 179 ok) := by kernel_rfl


/-- the rounds: whether all held, and what was returned from within -/
def loopR (k mss : Int) (l : List Sample) (wh : List Int) : Nat → CcM → Int → Bool × Option Bool
  | 0, _, _ => (false, none)
  | n + 1, c, i => bif decide (i < l.length) then
      (let d := dW l i (whW wh i) c
       let e := eW l i (whW wh i) c
       let q := andB (andB true (cW wh i)) (kW l i (whW wh i) c)
       bif !decide (e = 0) then (q, some (bAnd (decide (e = 2)) true)) else
       bif badD k mss d then (andB q (lenOk d.Bw.length), some false) else
       bif badP (paV d (smp l i)) then (andB (andB (andB q (lenOk d.Bw.length)) (cS l i)) (lb d), some false) else
       (andB (andB (andB q (lenOk d.Bw.length)) (cS l i)) (lb d) && (loopR k mss l wh n d (IntKind.i64.wrap (i + 1))).1, (loopR k mss l wh n d (IntKind.i64.wrap (i + 1))).2))
    else (true, none)
def endK (kx : Nat → St → Res) (kr : St → Res) : Option Bool → Bool → Res
  | none, ok => kx 0 (headSt [(8, .undef)] [] 400 179 ok)
  | some b, ok => endR kr b ok
theorem loopc3 (L : Nat → Option LSpec) (k mss : Int) (o o2 : Bool) (l : List Sample) (wh : List Int) (kx : Nat → St → Res) (kr : St → Res) : ∀ (n : Nat) (c : CcM) (i : Int), (loopR k mss l wh n c i).1 = true →
    loopN (bbC Gc3 L) (loopAt Try.f3 0) [0, 1, 2, 3, 9, 11] [112] [8] [] 400 n (headSt (T3c k mss i o o2 l wh) (B3c c) 400 179 true) kx kr = endK kx kr (loopR k mss l wh n c i).2 true
  | 0, c, i, h => by cases h
  | n + 1, c, i, h => by
    refine Eq.trans (round3c L k mss i o o2 l wh c true (fun s => loopN (bbC Gc3 L) (loopAt Try.f3 0) [0, 1, 2, 3, 9, 11] [112] [8] [] 400 n s kx kr) kx kr) ?_
    have ih := loopc3 L k mss o o2 l wh kx kr n (dW l i (whW wh i) c) (IntKind.i64.wrap (i + 1))
    simp only [loopR] at h ⊢
    cases h1 : decide (i < (l.length : Int)) with
    | false => rfl
    | true =>
      rw [h1] at h
      simp only [cond_true] at h ⊢
      unfold tail3
      cases h2 : (!decide (eW l i (whW wh i) c = 0)) with
      | true => rw [h2] at h; simp only [cond_true] at h ⊢; rw [h]; rfl
      | false =>
        rw [h2] at h
        simp only [cond_false] at h ⊢
        cases h3 : badD k mss (dW l i (whW wh i) c) with
        | true => rw [h3] at h; simp only [cond_true] at h ⊢; rw [h]; rfl
        | false =>
          rw [h3] at h
          simp only [cond_false] at h ⊢
          cases h4 : badP (paV (dW l i (whW wh i) c) (smp l i)) with
          | true => rw [h4] at h; simp only [cond_true] at h ⊢; rw [h]; rfl
          | false =>
            rw [h4] at h
            simp only [cond_false, Bool.and_eq_true] at h ⊢
            rw [h.1]
            exact ih h.2
def F3c : LSpec := fun st kx kr => match st.tm 0, st.tm 1, st.tm 2, st.tm 3, st.tm 9, st.tm 11, Nat.beq st.n 179, Nat.beq st.nb 400, st.bx 112 with
  | .int .i64 k, .int .i64 mss, .slice .sample _ l, .slice .i64 _ wh, .ptr 112 0, .int .i64 i, true, true, some cs => (match decCc cs with
    | some c => endK kx kr (loopR k mss l wh (l.length + 1) c i).2 (andB st.ok (loopR k mss l wh (l.length + 1) c i).1)
    | none => Res.bad)
  | _, _, _, _, _, _, _, _, _ => Res.bad
theorem endK_ok {kx : Nat → St → Res} {kr : St → Res} (hx : ∀ i, Resp (kx i)) (hr : Resp kr) {r : Option Bool} {ok : Bool} (h : (endK kx kr r ok).ok = true) : ok = true := by
  cases r with
  | none => exact hx 0 _ h
  | some b => exact hr _ h
theorem allLow_cc (c : CcM) (m : Nat) : allLow m (ccCells c) = true := rfl
theorem lawc3 (L : Nat → Option LSpec) : SoundL (bbC Gc3 L) (loopAt Try.f3 0) F3c := by
  refine soundL_of bb_mixed (bbEOk Gc3 L) (bbGOk L gc3) [0, 1, 2, 3, 9, 11] [112] [8] [] (fun st => match st.tm 2 with | .slice _ _ l => l.length + 1 | _ => 0) (lok_none (by kernel_rfl)) fun st kx kr hx hr hok => ?_
  unfold F3c at hok ⊢
  split at hok
  · rename_i k mss o l o2 wh i cs h0 h1 h2 h3 h9 h11 hn hnb hb
    split at hok
    · rename_i c hd
      obtain rfl := decCc_eq hd
      try simp only [h0, h1, h2, h3, h9, h11, hn, hnb, hb, hd]
      obtain ⟨hok1, hc⟩ := andB_true (endK_ok hx hr hok)
      have e : norm [0, 1, 2, 3, 9, 11] [112] st.nb st = headSt (T3c k mss i o o2 l wh) (B3c c) 400 179 true := by
        have := Nat.eq_of_beq_eq_true hn
        have := Nat.eq_of_beq_eq_true hnb
        simp [norm, headSt, keepT, keepB, h0, h1, h2, h3, h9, h11, hb, *, lowT, low, low0, lowB, andB, allLow_cc]
        rfl
      rw [e, Nat.eq_of_beq_eq_true hnb, loopc3 L k mss o o2 l wh kx kr (l.length + 1) c i hc]
      simp [hok1, hc, andB]
    · cases hok
  · cases hok
def L3c : Nat → Option LSpec := fun i => match Nat.beq i 5 with | true => some F3c | false => none
def skip3 (k mss : Int) (l : List Sample) (wh : List Int) : Bool := bOr (bOr (!decide (cnewE k mss 4 = 0)) (decide ((l.length : Int) > 200))) (decide ((wh.length : Int) < (l.length : Int)))
def fin3 : Option Bool → Bool → Res
  | none, ok => ⟨andB true ok, .bool true, []⟩
  | some b, ok => ⟨andB true ok, .bool b, []⟩
theorem runc3 (k mss : Int) (o o2 : Bool) (l : List Sample) (wh : List Int) : runF (bbC Gc3 L3c) Try.f3 [.i64 k, .i64 mss, .slice .sample o l, .slice .i64 o2 wh] [] =
    bif skip3 k mss l wh then ⟨true, .bool true, []⟩ else fin3 (loopR k mss l wh (l.length + 1) (cnewM k mss 4) 0).2 (loopR k mss l wh (l.length + 1) (cnewM k mss 4) 0).1 := by kernel_rfl

end Go.Proofs

/-
  The cc seat: what stays of Reno and of CUBIC.
-/
namespace Go.Proofs
open Go Go.Im

theorem bAnd_mk {x y : Bool} (h : x = true) (k : y = true) : bAnd x y = true := by rw [h, k]; rfl
theorem bOr_mk {x y : Bool} (h : x = false) (k : y = false) : bOr x y = false := by rw [h, k]; rfl
theorem dF {p : Prop} [Decidable p] (h : ¬ p) : decide p = false := decide_eq_false h
theorem dT {p : Prop} [Decidable p] (h : p) : decide p = true := decide_eq_true h
theorem szB_mk {n : Int} (h : 0 ≤ n) (k : n ≤ 1073741824) : szB n = true := bAnd_mk (dT h) (dT k)
theorem nF {x : Bool} (h : x = true) : (!x) = false := by rw [h]; rfl
theorem nT {x : Bool} (h : (!x) = false) : x = true := by cases x <;> simp_all
theorem okV_mk {a v : Int} (h : 0 ≤ v) (k : v ≤ a) : okV a v = true := by
  have h1 : decide (v < 0) = false := dF (by omega)
  have h2 : decide (v > a) = false := dF (by omega)
  unfold okV; rw [h1, h2]; rfl
theorem okV_iff {a v : Int} (h : okV a v = true) : 0 ≤ v ∧ v ≤ a := by
  simp [okV] at h; omega
theorem all_mk {α : Type} {f : α → Bool} {x : α} {l : List α} (h : f x = true) (k : l.all f = true) : (x :: l).all f = true := by simp [h, k]
theorem all_inv {α : Type} {f : α → Bool} {x : α} {l : List α} (h : (x :: l).all f = true) : f x = true ∧ l.all f = true := by simpa using h
theorem min_le {x y : Int} : min64 x y ≤ x ∧ min64 x y ≤ y := by unfold min64; split <;> omega
theorem le_min {a x y : Int} (h : a ≤ x) (k : a ≤ y) : a ≤ min64 x y := by unfold min64; split <;> omega
theorem le_max {x y : Int} : x ≤ max64 x y ∧ y ≤ max64 x y := by unfold max64; split <;> omega
theorem max_le {a x y : Int} (h : x ≤ a) (k : y ≤ a) : max64 x y ≤ a := by unfold max64; split <;> omega
theorem clamp_bd {x lo hi : Int} (h : lo ≤ hi) : lo ≤ clampM x lo hi ∧ clampM x lo hi ≤ hi := by unfold clampM; (repeat' split) <;> omega

theorem mdV_bd (a b c : Int) : 0 ≤ mdV a b c ∧ mdV a b c ≤ 9223372036854775807 := by
  unfold mdV
  cases mdBad a b c with
  | true => simp
  | false =>
    simp only [cond_false]
    cases decide (mdH a b ≥ wU c) with
    | true => simp
    | false =>
      simp only [cond_false]
      have hq : 0 ≤ mdQ a b c := by
        unfold mdQ qM
        cases decide (mdH a b = 0) with
        | true =>
          simp only [cond_true]
          refine Int.ediv_nonneg ?_ (wU_range c).1
          unfold mdL
          omega
        | false => simp only [cond_false]; exact (wU_range _).1
      unfold mdR
      split
      · rw [wrap_i64 (by omega) (by omega)]; omega
      · rw [wrap_i64 (by omega) (by omega)]; omega
theorem sumM_ge {a b : Int} (ha : 0 ≤ a ∧ a ≤ 9223372036854775807) (hb : 0 ≤ b ∧ b ≤ 9223372036854775807) : a ≤ sumM a b := by
  unfold sumM
  cases hP : sumP a b with
  | true => simp only [cond_true]; omega
  | false =>
    simp only [cond_false]
    have hQ : sumQ a b = false := by
      have : decide (a < 0) = false := dF (by omega)
      unfold sumQ; rw [this]; rfl
    rw [hQ]
    simp only [cond_false]
    by_cases h : a + b ≤ 9223372036854775807
    · rw [wrap_i64 (by omega) h]; omega
    · exfalso
      have h1 : decide (a > 0) = true := dT (by omega)
      have h2 : decide (b > 0) = true := dT (by omega)
      have h3 : decide (IntKind.i64.wrap (a + b) < 0) = true := by
        refine dT ?_
        have : IntKind.i64.wrap (a + b) = a + b - 18446744073709551616 := by simp [IntKind.wrap, IntKind.bits, IntKind.signed]; omega
        omega
      have : sumP a b = true := bAnd_mk (bAnd_mk h1 h2) h3
      rw [hP] at this; cases this

/-- what Reno and CUBIC ask alike -/
structure Base (c : CcM) : Prop where
  m1 : 1 ≤ c.Mss
  m2 : c.Mss ≤ 65000
  w1 : c.Mss ≤ c.Cwnd
  w2 : c.Cwnd ≤ 1073741824
  s1 : 2 * c.Mss ≤ c.Ssthresh
  s2 : c.Ssthresh ≤ 1073741824
  a1 : 0 ≤ c.Acc
  a2 : c.Acc ≤ 1073741824
theorem badR_mk {c : CcM} (hk : c.Kind = 1) (h : Base c) (hp : plainR c = true) : badR c = false := by
  have := h.m1; have := h.m2; have := h.w1; have := h.w2; have := h.s1; have := h.s2
  refine bOr_mk (bOr_mk (bOr_mk (bOr_mk (bOr_mk (bOr_mk (bOr_mk (bOr_mk (nF (dT hk)) (dF (by omega))) (dF (by omega))) (dF (by omega))) (nF (szB_mk (by omega) h.w2))) ?_) (nF (szB_mk (by omega) h.s2))) (nF (szB_mk h.a1 h.a2))) (nF hp)
  rw [wrap_i64 (by omega) (by omega)]; exact dF (by omega)
theorem badR_inv {c : CcM} (h : badR c = false) : c.Kind = 1 ∧ Base c ∧ plainR c = true := by
  unfold badR at h
  obtain ⟨h, h9⟩ := bOr_false' h
  obtain ⟨h, h8⟩ := bOr_false' h
  obtain ⟨h, h7⟩ := bOr_false' h
  obtain ⟨h, h6⟩ := bOr_false' h
  obtain ⟨h, h5⟩ := bOr_false' h
  obtain ⟨h, h4⟩ := bOr_false' h
  obtain ⟨h, h3⟩ := bOr_false' h
  obtain ⟨h1, h2⟩ := bOr_false' h
  have h2 := of_decide_eq_false h2
  have h3 := of_decide_eq_false h3
  have h4 := of_decide_eq_false h4
  have h6 := of_decide_eq_false h6
  have h5 := szB_iff (nT h5)
  have h7 := szB_iff (nT h7)
  have h8 := szB_iff (nT h8)
  rw [wrap_i64 (by omega) (by omega)] at h6
  exact ⟨of_decide_eq_true (nT h1), ⟨by omega, by omega, by omega, by omega, by omega, by omega, by omega, by omega⟩, nT h9⟩
structure Cub (c : CcM) : Prop where
  x1 : 0 ≤ c.Wmax ∧ c.Wmax ≤ 1073741824
  x2 : 0 ≤ c.West ∧ c.West ≤ 1073741824
  x3 : 0 ≤ c.Start ∧ c.Start ≤ 1073741824
  x4 : 0 ≤ c.K ∧ c.K ≤ 2097151
  x5 : -1 ≤ c.Epoch ∧ c.Epoch ≤ 1125899906842624
theorem badQ_mk {c : CcM} (hk : c.Kind = 2) (h : Base c) (hc : Cub c) (hp : plainR (bareQ c) = true) : badQ c = false := by
  have hb : badR (bareQ c) = false := badR_mk rfl ⟨h.m1, h.m2, h.w1, h.w2, h.s1, h.s2, h.a1, h.a2⟩ hp
  have := hc.x4; have := hc.x5
  unfold badQ
  rw [hb]
  exact bOr_mk (bOr_mk (bOr_mk (bOr_mk (bOr_mk (bOr_mk (nF (dT hk)) rfl) (nF (all_mk (okV_mk hc.x1.1 hc.x1.2) (all_mk (okV_mk hc.x2.1 hc.x2.2) (all_mk (okV_mk hc.x3.1 hc.x3.2) rfl))))) (dF (by omega))) (dF (by omega))) (dF (by omega))) (dF (by omega))
theorem badQ_inv {c : CcM} (h : badQ c = false) : c.Kind = 2 ∧ Base c ∧ Cub c ∧ plainR (bareQ c) = true := by
  unfold badQ at h
  obtain ⟨h, h7⟩ := bOr_false' h
  obtain ⟨h, h6⟩ := bOr_false' h
  obtain ⟨h, h5⟩ := bOr_false' h
  obtain ⟨h, h4⟩ := bOr_false' h
  obtain ⟨h, h3⟩ := bOr_false' h
  obtain ⟨h1, h2⟩ := bOr_false' h
  rw [decE _ _ (by omega)] at h2
  obtain ⟨-, hb, hp⟩ := badR_inv h2
  have h7 := of_decide_eq_false h7
  have h6 := of_decide_eq_false h6
  have h5 := of_decide_eq_false h5
  have h4 := of_decide_eq_false h4
  obtain ⟨e1, h3⟩ := all_inv (nT h3)
  obtain ⟨e2, h3⟩ := all_inv h3
  obtain ⟨e3, -⟩ := all_inv h3
  exact ⟨of_decide_eq_true (nT h1), ⟨hb.m1, hb.m2, hb.w1, hb.w2, hb.s1, hb.s2, hb.a1, hb.a2⟩, ⟨okV_iff e1, okV_iff e2, okV_iff e3, by omega, by omega⟩, hp⟩

/-- what a happening leaves of a controller that may be -/
def Good (c d : CcM) (e : Int) : Prop := e = 2 ∨ (e = 0 ∧ badA d = false ∧ d.Kind = c.Kind ∧ d.Mss = c.Mss ∧ d.Bw.length ≤ c.Bw.length + 1)
theorem badA_r {d : CcM} (hk : d.Kind = 1) (h : badR d = false) : badA d = false := by unfold badA; rw [dT hk]; exact h
theorem badA_q {d : CcM} (hk : d.Kind = 2) (h : badQ d = false) : badA d = false := by unfold badA; rw [dF (by omega), dT hk]; exact h
theorem badA_c {d : CcM} (h1 : d.Kind ≠ 1) (h2 : d.Kind ≠ 2) (h : badC d = false) : badA d = false := by unfold badA; rw [dF h1, dF h2]; exact h
theorem good_r {c d : CcM} (hk : d.Kind = 1) (hb : Base d) (hp : plainR d = true) (h1 : d.Kind = c.Kind) (h2 : d.Mss = c.Mss) (h3 : d.Bw = c.Bw) : Good c d 0 :=
  .inr ⟨rfl, badA_r hk (badR_mk hk hb hp), h1, h2, by rw [h3]; omega⟩
theorem good_q {c d : CcM} (hk : d.Kind = 2) (hb : Base d) (hc : Cub d) (hp : plainR (bareQ d) = true) (h1 : d.Kind = c.Kind) (h2 : d.Mss = c.Mss) (h3 : d.Bw = c.Bw) : Good c d 0 :=
  .inr ⟨rfl, badA_q hk (badQ_mk hk hb hc hp), h1, h2, by rw [h3]; omega⟩

/-! ### Reno -/
theorem half_bd {n : Int} (h : 0 ≤ n ∧ n ≤ 1073741824) : IntKind.i64.wrap (n.tdiv 2) ≤ 1073741824 := by
  rw [Int.tdiv_eq_ediv_of_nonneg h.1, wrap_i64 (by omega) (by omega)]; omega
theorem r_loss {c : CcM} (h : badR c = false) (n : Int) (hn : 0 ≤ n ∧ n ≤ 1073741824) : begE c n = 0 ∧ Base (rLoss c n) ∧ plainR (rLoss c n) = true ∧ (rLoss c n).Kind = 1 ∧ (rLoss c n).Mss = c.Mss ∧ (rLoss c n).Bw = c.Bw := by
  obtain ⟨hk, hb, hp⟩ := badR_inv h
  have hs : szB n = true := szB_mk hn.1 hn.2
  have e : begE c n = 0 := by unfold begE; rw [h, hs]; rfl
  have e2 : begC c n = c := by unfold begC; rw [h, hs]; rfl
  have := hb.m1; have := hb.m2
  have hw : IntKind.i64.wrap (2 * c.Mss) = 2 * c.Mss := wrap_i64 (by omega) (by omega)
  have er : rLoss c n = { c with Ssthresh := max64 (2 * c.Mss) (IntKind.i64.wrap (n.tdiv 2)), Acc := 0 } := by unfold rLoss; rw [e, e2, hw]; rfl
  rw [er]
  exact ⟨e, ⟨hb.m1, hb.m2, hb.w1, hb.w2, le_max.1, max_le (by omega) (half_bd hn), by show (0 : Int) ≤ 0; omega, by show (0 : Int) ≤ 1073741824; omega⟩, hp, hk, rfl, rfl⟩
theorem beg_2 {c : CcM} (h : badR c = false) {n : Int} (hs : szB n = false) : begE c n = 2 := by unfold begE; rw [h, hs]; rfl
theorem rise_base {c : CcM} (hb : Base c) {n : Int} (hn : 0 ≤ n ∧ n ≤ 1073741824) : Base (riseM c n) := by
  have := hb.m1; have := hb.w1; have := hb.w2
  refine ⟨hb.m1, hb.m2, ?_, ?_, hb.s1, hb.s2, hb.a1, hb.a2⟩
  · show c.Mss ≤ (if IntKind.i64.wrap (c.Cwnd + n) < 1073741824 then IntKind.i64.wrap (c.Cwnd + n) else 1073741824)
    rw [wrap_i64 (by omega) (by omega)]; split <;> omega
  · show (if IntKind.i64.wrap (c.Cwnd + n) < 1073741824 then IntKind.i64.wrap (c.Cwnd + n) else 1073741824) ≤ 1073741824
    split <;> omega
theorem r_ack {c : CcM} (h : badR c = false) (n : Int) (idle : Bool) (hn : 0 ≤ n ∧ n ≤ 1073741824) : Good c (rAck c n idle) (begE c n) := by
  obtain ⟨hk, hb, hp⟩ := badR_inv h
  have hs : szB n = true := szB_mk hn.1 hn.2
  have e : begE c n = 0 := by unfold begE; rw [h, hs]; rfl
  have e2 : begC c n = c := by unfold begC; rw [h, hs]; rfl
  have := hb.m1; have := hb.m2; have := hb.w1; have := hb.w2; have := hb.a1; have := hb.a2
  unfold rAck
  rw [e, e2]
  cases idle with
  | true => exact good_r hk hb hp rfl rfl rfl
  | false =>
    show Good c (bif decide (c.Cwnd < c.Ssthresh) then riseM c (min64 n c.Mss) else rackM c n) 0
    cases decide (c.Cwnd < c.Ssthresh) with
    | true => exact good_r hk (rise_base hb ⟨le_min hn.1 (by omega), Int.le_trans min_le.1 hn.2⟩) hp rfl rfl rfl
    | false =>
      simp only [cond_false]
      have hA : Base (accM c n) := ⟨hb.m1, hb.m2, hb.w1, hb.w2, hb.s1, hb.s2, by
        show 0 ≤ min64 1073741824 (IntKind.i64.wrap (c.Acc + n))
        rw [wrap_i64 (by omega) (by omega)]; exact le_min (by omega) (by omega), min_le.1⟩
      have q1 : 0 ≤ (accM c n).Acc ∧ (accM c n).Acc ≤ 1073741824 := ⟨hA.a1, hA.a2⟩
      unfold rackM
      rw [CcM.mrg_eq]
      by_cases hc : (accM c n).Acc ≥ (accM c n).Cwnd
      · rw [dT hc]
        have q2 : (accM c n).Cwnd = c.Cwnd := rfl
        have hB : Base { accM c n with Acc := IntKind.i64.wrap ((accM c n).Acc - (accM c n).Cwnd) } := ⟨hb.m1, hb.m2, hb.w1, hb.w2, hb.s1, hb.s2, by
          show 0 ≤ IntKind.i64.wrap ((accM c n).Acc - (accM c n).Cwnd)
          rw [wrap_i64 (by omega) (by omega)]; omega, by
          show IntKind.i64.wrap ((accM c n).Acc - (accM c n).Cwnd) ≤ 1073741824
          rw [wrap_i64 (by omega) (by omega)]; omega⟩
        exact good_r hk (rise_base hB ⟨by show 0 ≤ c.Mss; omega, by show c.Mss ≤ 1073741824; omega⟩) hp rfl rfl rfl
      · rw [dF hc]
        exact good_r hk hA hp rfl rfl rfl

/-! ### CUBIC -/
theorem q_fall {c : CcM} (h : badQ c = false) : Base (fallM c) ∧ Cub (fallM c) ∧ plainR (bareQ (fallM c)) = true := by
  obtain ⟨hk, hb, hc, hp⟩ := badQ_inv h
  have := hb.m1; have := hb.m2; have := hb.w1; have := hb.w2
  have hw : IntKind.i64.wrap (2 * c.Mss) = 2 * c.Mss := wrap_i64 (by omega) (by omega)
  have h7 : IntKind.i64.wrap ((IntKind.i64.wrap (7 * c.Cwnd)).tdiv 10) ≤ 1073741824 := by
    rw [wrap_i64 (n := 7 * c.Cwnd) (by omega) (by omega), Int.tdiv_eq_ediv_of_nonneg (by omega), wrap_i64 (by omega) (by omega)]; omega
  have h17 : 0 ≤ IntKind.i64.wrap ((IntKind.i64.wrap (17 * c.Cwnd)).tdiv 20) ∧ IntKind.i64.wrap ((IntKind.i64.wrap (17 * c.Cwnd)).tdiv 20) ≤ 1073741824 := by
    rw [wrap_i64 (n := 17 * c.Cwnd) (by omega) (by omega), Int.tdiv_eq_ediv_of_nonneg (by omega), wrap_i64 (by omega) (by omega)]; omega
  refine ⟨⟨hb.m1, hb.m2, hb.w1, hb.w2, ?_, ?_, by show (0 : Int) ≤ 0; omega, by show (0 : Int) ≤ 1073741824; omega⟩, ⟨?_, hc.x2, hc.x3, hc.x4, by show (-1 : Int) ≤ -1 ∧ (-1 : Int) ≤ 1125899906842624; omega⟩, hp⟩
  · show 2 * c.Mss ≤ max64 (IntKind.i64.wrap (2 * c.Mss)) _
    rw [hw]; exact le_max.1
  · show max64 (IntKind.i64.wrap (2 * c.Mss)) _ ≤ 1073741824
    rw [hw]; exact max_le (by omega) h7
  · show 0 ≤ (bif decide (c.Cwnd < c.Wmax) then IntKind.i64.wrap ((IntKind.i64.wrap (17 * c.Cwnd)).tdiv 20) else c.Cwnd) ∧ (bif decide (c.Cwnd < c.Wmax) then IntKind.i64.wrap ((IntKind.i64.wrap (17 * c.Cwnd)).tdiv 20) else c.Cwnd) ≤ 1073741824
    cases decide (c.Cwnd < c.Wmax) with
    | true => exact h17
    | false => simp only [cond_false]; omega
theorem mv_e {c : CcM} (h : badQ c = false) {n : Int} (d : CcM) (hn : okV 1073741824 n = true) : mvE c n = 0 ∧ mvM c n d = d := by
  have : (!([n].all (okV 1073741824))) = false := by simp [hn]
  unfold mvE mvM
  rw [h, this]
  exact ⟨rfl, rfl⟩
theorem mv_2 {c : CcM} (h : badQ c = false) {n : Int} (hn : okV 1073741824 n = false) : mvE c n = 2 := by
  have : (!([n].all (okV 1073741824))) = true := by simp [hn]
  unfold mvE
  rw [h, this]; rfl
theorem q_loss {c : CcM} (h : badQ c = false) (n : Int) : Good c (qLoss c n) (mvE c n) := by
  cases hn : okV 1073741824 n with
  | false => exact .inl (mv_2 h hn)
  | true =>
    obtain ⟨e1, e2⟩ := mv_e h (fallM c) hn
    obtain ⟨a, b, d⟩ := q_fall h
    unfold qLoss
    rw [e1, e2]
    exact good_q (badQ_inv h).1 a b d rfl rfl rfl
theorem q_to {c : CcM} (h : badQ c = false) (n : Int) : Good c (qTo c n) (mvE c n) := by
  cases hn : okV 1073741824 n with
  | false => exact .inl (mv_2 h hn)
  | true =>
    obtain ⟨e1, e2⟩ := mv_e h (shutM c) hn
    obtain ⟨a, b, d⟩ := q_fall h
    have := (badQ_inv h).2.1
    have := this.m2
    unfold qTo
    rw [e1, e2]
    exact good_q (badQ_inv h).1 ⟨a.m1, a.m2, Int.le_refl _, by show c.Mss ≤ 1073741824; omega, a.s1, a.s2, a.a1, a.a2⟩ ⟨b.x1, b.x2, b.x3, b.x4, b.x5⟩ d rfl rfl rfl

theorem or_bd {x i : Int} (hx : 0 ≤ x ∧ x < 2097152) (h0 : 0 ≤ i ∧ i ≤ 20) : 0 ≤ cbY x i ∧ cbY x i < 2097152 := by
  have hs : 0 ≤ 20 - i ∧ 20 - i ≤ 20 := by omega
  have e1 : IntKind.i64.wrap (20 - i) = 20 - i := wrap_i64 (by omega) (by omega)
  obtain ⟨k, hk⟩ := Int.eq_ofNat_of_zero_le hs.1
  have hk20 : k ≤ 20 := by omega
  have e2 : (2 : Int) ^ min (20 - i).toNat 64 = ((2 ^ k : Nat) : Int) := by
    rw [hk]; simp; congr 1; omega
  have hp : 2 ^ k ≤ 1048576 := Nat.pow_le_pow_right (n := 2) (by omega) hk20
  generalize 2 ^ k = p at *
  obtain ⟨m, rfl⟩ := Int.eq_ofNat_of_zero_le hx.1
  have hm : m < 2097152 := by have := hx.2; omega
  unfold cbY bitsOp
  rw [e1, e2, Int.one_mul, wrap_i64 (by omega) (by omega)]
  have key : (BitVec.ofInt IntKind.i64.bits ((m : Nat) : Int) ||| BitVec.ofInt IntKind.i64.bits ((p : Nat) : Int)).toNat < 2 ^ 21 := by
    rw [BitVec.toNat_or]
    refine Nat.or_lt_two_pow ?_ ?_
    · simp [BitVec.toNat_ofInt, IntKind.bits]; omega
    · simp [BitVec.toNat_ofInt, IntKind.bits]; omega
  simp only
  rw [wrap_i64 (by omega) (by omega)]
  omega
theorem cb_bd (n : Int) : ∀ (k : Nat) (x : Int) (i : Nat), (0 ≤ x ∧ x < 2097152) → 0 ≤ cbN n k x i ∧ cbN n k x i < 2097152
  | 0, x, i, hx => hx
  | k + 1, x, i, hx => by
    simp only [cbN]
    by_cases h : (i : Int) < 21
    · rw [dT h]
      have e2 : IntKind.i64.wrap ((i : Int) + 1) = ((i + 1 : Nat) : Int) := by rw [wrap_i64 (by omega) (by omega)]; simp
      rw [e2]
      simp only [cond_true]
      refine cb_bd n k _ (i + 1) ?_
      unfold cbX
      cases decide (IntKind.i64.wrap (IntKind.i64.wrap (cbY x i * cbY x i) * cbY x i) ≤ n) with
      | true => exact or_bd hx (by omega)
      | false => exact hx
    · rw [dF h]; exact hx

theorem q_begin {c : CcM} (hb : Base c) (hc : Cub c) {now : Int} (hn : 0 ≤ now ∧ now ≤ 1125899906842624) : Base (gr0 c now) ∧ Cub (gr0 c now) ∧ (gr0 c now).Mss = c.Mss := by
  have := hb.m1; have := hb.w1; have := hb.w2
  unfold gr0
  rw [CcM.mrg_eq]
  cases decide (c.Epoch < 0) with
  | false => exact ⟨hb, hc, rfl⟩
  | true =>
    simp only [cond_true]
    unfold bgM
    have hk := cb_bd (byM (IntKind.i64.wrap (c.Wmax - c.Cwnd)) 10000000000 (IntKind.i64.wrap (4 * c.Mss))) 22 0 0 (by omega)
    have hw : 0 ≤ c.Cwnd ∧ c.Cwnd ≤ 1073741824 := by omega
    have he : -1 ≤ now ∧ now ≤ 1125899906842624 := by omega
    cases decide (c.Cwnd < c.Wmax) with
    | true => exact ⟨⟨hb.m1, hb.m2, hb.w1, hb.w2, hb.s1, hb.s2, hb.a1, hb.a2⟩, ⟨hc.x1, hw, hw, ⟨hk.1, by show cbM _ ≤ 2097151; exact Int.le_of_lt_add_one hk.2⟩, he⟩, rfl⟩
    | false => exact ⟨⟨hb.m1, hb.m2, hb.w1, hb.w2, hb.s1, hb.s2, hb.a1, hb.a2⟩, ⟨hw, hw, hw, by show (0 : Int) ≤ 0 ∧ (0 : Int) ≤ 2097151; omega, he⟩, rfl⟩
theorem q_grow {c : CcM} (hb : Base c) (hc : Cub c) (n now srtt : Int) (hn : 0 ≤ now ∧ now ≤ 1125899906842624) : Base (growM c n now srtt) ∧ Cub (growM c n now srtt) := by
  obtain ⟨h1, h2, h3⟩ := q_begin hb hc hn
  have := h1.m1; have := h1.m2; have := h1.w1; have := h1.w2; have := h2.x2
  generalize hd : gr0 c now = d at *
  have hW : 0 ≤ (gr1 d n).West ∧ (gr1 d n).West ≤ 1073741824 := by
    have hm := mdV_bd (IntKind.i64.wrap (529 * d.Mss)) n (IntKind.i64.wrap (1000 * d.Cwnd))
    have hs := sumM_ge (a := d.West) (b := byM (IntKind.i64.wrap (529 * d.Mss)) n (IntKind.i64.wrap (1000 * d.Cwnd))) (by omega) hm
    exact ⟨le_min (by omega) (by omega), min_le.1⟩
  have hC : d.Mss ≤ (growM c n now srtt).Cwnd ∧ (growM c n now srtt).Cwnd ≤ 1073741824 := by
    unfold growM
    rw [hd]
    have hm := mdV_bd (IntKind.i64.wrap (grW d now srtt - d.Cwnd)) n d.Cwnd
    have hs := sumM_ge (a := d.Cwnd) (b := byM (IntKind.i64.wrap (grW d now srtt - d.Cwnd)) n d.Cwnd) (by omega) hm
    exact ⟨le_min (by omega) (Int.le_trans (by omega) (Int.le_trans hs le_max.2)), min_le.1⟩
  have e : growM c n now srtt = gr2 (gr1 d n) (grW d now srtt) n := by unfold growM; rw [hd]
  rw [e] at hC ⊢
  exact ⟨⟨h1.m1, h1.m2, hC.1, hC.2, h1.s1, h1.s2, h1.a1, h1.a2⟩, ⟨h2.x1, hW, h2.x3, h2.x4, h2.x5⟩⟩
theorem q_gr0 (c : CcM) (now : Int) : (gr0 c now).Kind = c.Kind ∧ (gr0 c now).Mss = c.Mss ∧ (gr0 c now).Bw = c.Bw ∧ plainR (bareQ (gr0 c now)) = plainR (bareQ c) := by
  unfold gr0 bgM
  rw [CcM.mrg_eq]
  cases decide (c.Epoch < 0) <;> cases decide (c.Cwnd < c.Wmax) <;> exact ⟨rfl, rfl, rfl, rfl⟩
theorem q_ack {c : CcM} (h : badQ c = false) (n now srtt : Int) (idle : Bool) (hn : 0 ≤ n ∧ n ≤ 1073741824) (hw : 0 ≤ now ∧ now ≤ 1125899906842624) (hr : 0 ≤ srtt ∧ srtt ≤ 1125899906842624) : Good c (q27 c n now srtt idle) (e27 c n now srtt) := by
  obtain ⟨hk, hb, hc, hp⟩ := badQ_inv h
  have := hb.m1; have := hb.m2; have := hb.w1; have := hb.w2
  have ht : badT n now srtt = false := bOr_mk (bOr_mk (bOr_mk (bOr_mk (nF (all_mk (okV_mk hn.1 hn.2) rfl)) (dF (by omega))) (dF (by omega))) (dF (by omega))) (dF (by omega))
  have e1 : e27 c n now srtt = 0 := by unfold e27; rw [h, ht]; rfl
  have e2 : q27 c n now srtt idle = qaM c n now srtt idle := by unfold q27; rw [h, ht]; rfl
  rw [e1, e2]
  unfold qaM
  rw [CcM.mrg_eq, CcM.mrg_eq]
  cases idle with
  | true => exact good_q hk ⟨hb.m1, hb.m2, hb.w1, hb.w2, hb.s1, hb.s2, hb.a1, hb.a2⟩ ⟨hc.x1, hc.x2, hc.x3, hc.x4, by show (-1 : Int) ≤ -1 ∧ (-1 : Int) ≤ 1125899906842624; omega⟩ hp rfl rfl rfl
  | false =>
    simp only [cond_false]
    cases decide (c.Cwnd < c.Ssthresh) with
    | true =>
      have hm : 0 ≤ min64 n c.Mss ∧ min64 n c.Mss ≤ 1073741824 := ⟨le_min hn.1 (by omega), Int.le_trans min_le.1 hn.2⟩
      refine good_q hk ⟨hb.m1, hb.m2, ?_, ?_, hb.s1, hb.s2, hb.a1, hb.a2⟩ ⟨hc.x1, hc.x2, hc.x3, hc.x4, hc.x5⟩ hp rfl rfl rfl
      · show c.Mss ≤ min64 1073741824 (IntKind.i64.wrap (c.Cwnd + min64 n c.Mss))
        rw [wrap_i64 (by omega) (by omega)]; exact le_min (by omega) (by omega)
      · exact min_le.1
    | false =>
      obtain ⟨g1, g2⟩ := q_grow hb hc n now srtt hw
      obtain ⟨f1, f2, f3, f4⟩ := q_gr0 c now
      exact good_q (f1.trans hk) g1 g2 (f4.trans hp) f1 f2 f3

end Go.Proofs

/-
  The cc seat: what stays of BBR.
-/
namespace Go.Proofs
open Go Go.Im

theorem nFT {x : Bool} (h : (!x) = true) : x = false := by cases x <;> simp_all
/-- entries in order -/
def Ord (l : List Entry) : Prop := ∀ i (h : i < l.length), mayM l[i] = true ∧ (0 < i → (l[i - 1]'(by omega)).At < l[i].At ∧ l[i].V < (l[i - 1]'(by omega)).V)
theorem getD_at {l : List Entry} {i : Nat} (h : i < l.length) : l.getD i eZ = l[i] := by simp [List.getD, h]
theorem good_iff {l : List Entry} {i : Nat} (hl : l.length < 4294967296) (h : i < l.length) :
    good30 true l i = true ↔ (mayM l[i] = true ∧ (0 < i → (l[i - 1]'(by omega)).At < l[i].At ∧ l[i].V < (l[i - 1]'(by omega)).V)) := by
  have e1 : l.getD (i : Int).toNat eZ = l[i] := by rw [Int.toNat_natCast]; exact getD_at h
  by_cases h0 : 0 < i
  · have e2 : l.getD (IntKind.i64.wrap ((i : Int) - 1)).toNat eZ = l[i - 1]'(by omega) := by
      rw [wrap_i64 (by omega) (by omega)]
      have : ((i : Int) - 1).toNat = i - 1 := by omega
      rw [this]; exact getD_at (by omega)
    have e3 : decide ((i : Int) > 0) = true := dT (by omega)
    unfold good30 bad30
    rw [e1, e2, e3]
    cases hm : mayM l[i] with
    | false => simp
    | true =>
      by_cases hA : (l[i - 1]'(by omega)).At ≥ l[i].At
      · simp [hA]; omega
      · simp only [Bool.not_true, cond_false, cond_true, dF hA]
        simp [beatsM]
        omega
  · obtain rfl : i = 0 := by omega
    have e3 : decide (((0 : Nat) : Int) > 0) = false := rfl
    unfold good30 bad30
    rw [e1, e3]
    cases hm : mayM l[0] <;> simp
theorem chk_iff {l : List Entry} (hl : l.length < 4294967296) : chk true l = true ↔ Ord l := by
  unfold chk Ord
  rw [List.all_eq_true]
  constructor
  · intro h i hi
    exact (good_iff hl hi).1 (h i (by simp [List.mem_range']; omega))
  · intro h i hi
    have : i < l.length := by simp [List.mem_range'] at hi; omega
    exact (good_iff hl this).2 (h i this)
theorem ord_nil : Ord [] := fun i h => by simp at h
theorem ord_sub {l : List Entry} (h : Ord l) (a b : Nat) : Ord ((l.take b).drop a) := by
  intro i hi
  have hlen : ((l.take b).drop a).length = min b l.length - a := by simp
  rw [hlen] at hi
  have e : ((l.take b).drop a)[i]'(by omega) = l[a + i]'(by omega) := by simp
  rw [e]
  obtain ⟨h1, h2⟩ := h (a + i) (by omega)
  refine ⟨h1, fun h0 => ?_⟩
  have e2 : ((l.take b).drop a)[i - 1]'(by omega) = l[a + i - 1]'(by omega) := by
    simp; congr 1; omega
  rw [e2]
  exact h2 (by omega)
theorem ord_snoc {l : List Entry} (h : Ord l) {e : Entry} (hm : mayM e = true) (hl : ∀ (hp : 0 < l.length), (l[l.length - 1]'(by omega)).At < e.At ∧ e.V < (l[l.length - 1]'(by omega)).V) : Ord (l ++ [e]) := by
  intro i hi
  simp only [List.length_append, List.length_singleton] at hi
  by_cases hlt : i < l.length
  · have e1 : (l ++ [e])[i]'(by simp; omega) = l[i] := List.getElem_append_left hlt
    rw [e1]
    obtain ⟨h1, h2⟩ := h i hlt
    refine ⟨h1, fun h0 => ?_⟩
    have e2 : (l ++ [e])[i - 1]'(by simp; omega) = l[i - 1]'(by omega) := List.getElem_append_left (by omega)
    rw [e2]; exact h2 h0
  · obtain rfl : i = l.length := by omega
    have e1 : (l ++ [e])[l.length]'(by simp) = e := by simp
    rw [e1]
    refine ⟨hm, fun h0 => ?_⟩
    have e2 : (l ++ [e])[l.length - 1]'(by simp; omega) = l[l.length - 1]'(by omega) := List.getElem_append_left (by omega)
    rw [e2]; exact hl h0
theorem ord_mono {l : List Entry} (h : Ord l) : ∀ (k i : Nat) (hk : i + k < l.length), (l[i]'(by omega)).At ≤ l[i + k].At
  | 0, i, hk => Int.le_refl _
  | k + 1, i, hk => by
    have h1 := ord_mono h k i (by omega)
    have h2 := ((h (i + (k + 1)) hk).2 (by omega)).1
    have e : l[i + (k + 1) - 1]'(by omega) = l[i + k]'(by omega) := by congr 1
    rw [e] at h2; omega

/-- entries of a round -/
structure Ents (l : List Entry) (r : Int) : Prop where
  ord : Ord l
  v : ∀ e ∈ l, e.V ≤ 1099511627776
  a : ∀ e ∈ l, e.At ≤ r
theorem Ents.mono {l : List Entry} {r r' : Int} (h : Ents l r) (hr : r ≤ r') : Ents l r' := ⟨h.ord, h.v, fun e he => Int.le_trans (h.a e he) hr⟩
theorem Ents.sub {l : List Entry} {r : Int} (h : Ents l r) (a b : Nat) : Ents ((l.take b).drop a) r :=
  ⟨ord_sub h.ord a b, fun e he => h.v e (List.mem_of_mem_take (List.mem_of_mem_drop he)), fun e he => h.a e (List.mem_of_mem_take (List.mem_of_mem_drop he))⟩
theorem ents_nil (r : Int) : Ents [] r := ⟨ord_nil, by simp, by simp⟩

theorem toN_stop (l : List Entry) (m : Bool) (v : Int) (fr : Nat) : ∀ (n i : Nat), i < n → beat25 l m v fr (toN l m v fr n i : Nat) = false
  | 0, i, h => by omega
  | n + 1, i, h => by
    simp only [toN]
    cases hL : beat25 l m v fr i with
    | false => exact hL
    | true =>
      have hlt : fr < i := by
        unfold beat25 bAnd at hL
        cases hd : decide ((fr : Int) < (i : Int)) with
        | false => rw [hd] at hL; cases hL
        | true => simpa using hd
      exact toN_stop l m v fr n (i - 1) (by omega)

theorem put_ents {l : List Entry} {at_ v win : Int} (h : Ents l at_) (hl : l.length < 4294967296) (hv : v ≤ 1099511627776) : Ents (outL25 l true at_ v win) at_ ∧ (outL25 l true at_ v win).length ≤ l.length + 1 := by
  unfold outL25
  cases hb : bad25 l true at_ v win with
  | true => exact ⟨ents_nil _, by simp⟩
  | false =>
    simp only [cond_false]
    unfold bad25 at hb
    obtain ⟨h1, h2⟩ := bOr_false' hb
    obtain ⟨h3, -⟩ := bOr_false' h1
    obtain ⟨-, hm⟩ := bOr_false' h3
    have hm := nT hm
    have t1 := to25_le l true at_ v win
    have t2 := to25_ge l true at_ v win
    have ts := toN_stop l true v (from25 l at_ win) (l.length + 1) l.length (by omega)
    change beat25 l true v (from25 l at_ win) (to25 l true at_ v win : Nat) = false at ts
    unfold put25
    generalize from25 l at_ win = f at *
    generalize to25 l true at_ v win = t at *
    have hs := h.sub f t
    have hlen : ((l.take t).drop f).length = t - f := by simp; omega
    refine ⟨⟨ord_snoc hs.ord hm fun hp => ?_, fun e he => ?_, fun e he => ?_⟩, ?_⟩
    · have hft : f < t := by rw [hlen] at hp; omega
      have e1 : ((l.take t).drop f)[((l.take t).drop f).length - 1]'(by omega) = l[t - 1]'(by omega) := by
        simp only [List.getElem_drop, List.getElem_take]; congr 1; rw [hlen]; omega
      rw [e1]
      refine ⟨?_, ?_⟩
      · have h5 : decide ((l.length : Int) > 0) = true := dT (by omega)
        rw [h5] at h2
        have h6 : ¬ lastAt l ≥ at_ := of_decide_eq_false (by simpa [bAnd] using h2)
        have h7 : lastAt l = (l[l.length - 1]'(by omega)).At := by
          unfold lastAt
          rw [wrap_i64 (by omega) (by omega)]
          have : ((l.length : Int) - 1).toNat = l.length - 1 := by omega
          rw [this, getD_at (by omega)]
        have h8 := ord_mono h.ord (l.length - t) (t - 1) (by omega)
        have e9 : l[t - 1 + (l.length - t)]'(by omega) = l[l.length - 1]'(by omega) := by congr 1; omega
        rw [e9] at h8
        show (l[t - 1]'(by omega)).At < at_
        omega
      · have h5 : decide ((f : Int) < (t : Int)) = true := dT (by omega)
        unfold beat25 at ts
        rw [h5] at ts
        have h6 : beatsM v (l.getD (IntKind.i64.wrap ((t : Int) - 1)).toNat eZ).V true = false := by simpa [bAnd] using ts
        rw [wrap_i64 (by omega) (by omega)] at h6
        have : ((t : Int) - 1).toNat = t - 1 := by omega
        rw [this, getD_at (by omega)] at h6
        simp [beatsM] at h6
        exact h6
    · rcases List.mem_append.1 he with he | he
      · exact hs.v e he
      · simp at he; subst he; exact hv
    · rcases List.mem_append.1 he with he | he
      · exact hs.a e he
      · simp at he; subst he; exact Int.le_refl _
    · simp; omega

/-! ### the controller -/
structure Bok (c : CcM) : Prop where
  k : c.Kind = 3
  m1 : 1 ≤ c.Mss
  m2 : c.Mss ≤ 65000
  w1 : c.Mss ≤ c.Cwnd
  w2 : c.Cwnd ≤ 1073741824
  ss : c.Ssthresh = 1073741824
  ac : c.Acc = 0
  br : bareM c = true
  t1 : 0 ≤ c.MinRtt ∧ c.MinRtt ≤ 1125899906842624
  t2 : 0 ≤ c.MinAt ∧ c.MinAt ≤ 1125899906842624
  t3 : 0 ≤ c.NextAt ∧ c.NextAt ≤ 1125899906842624
  t4 : 0 ≤ c.PhaseAt ∧ c.PhaseAt ≤ 1125899906842624
  t5 : 0 ≤ c.DoneAt ∧ c.DoneAt ≤ 1125899906842624
  t6 : 0 ≤ c.Round ∧ c.Round ≤ 1125899906842624
  n1 : 0 ≤ c.Full ∧ c.Full ≤ 1099511627776
  n2 : 0 ≤ c.FullN ∧ c.FullN ≤ 3
  n3 : 0 ≤ c.Phase ∧ c.Phase ≤ 7
  n4 : 0 ≤ c.Prior ∧ c.Prior ≤ 1073741824
  md : 1 ≤ c.Mode ∧ c.Mode ≤ 4
  en : Ents c.Bw c.Round
theorem entriesM_iff {c : CcM} (hl : c.Bw.length < 4294967296) : entriesM c = true ↔ Ents c.Bw c.Round := by
  unfold entriesM
  constructor
  · intro h
    cases hc : chk true c.Bw with
    | false => rw [hc] at h; cases h
    | true =>
      rw [hc] at h
      simp only [cond_true, List.all_eq_true] at h
      have key : ∀ e ∈ c.Bw, e.V ≤ 1099511627776 ∧ e.At ≤ c.Round := by
        intro e he
        obtain ⟨i, hi, rfl⟩ := List.getElem_of_mem he
        have hg := h i (by simp [List.mem_range']; omega)
        have hg : bad24 c (c.Bw.getD i eZ) = false := nFT hg
        rw [getD_at hi] at hg
        unfold bad24 at hg
        cases h1 : decide (c.Bw[i].V > 1099511627776) with
        | true => rw [h1] at hg; cases hg
        | false =>
          rw [h1] at hg
          have := of_decide_eq_false h1
          have := of_decide_eq_false (show decide (c.Bw[i].At > c.Round) = false from hg)
          omega
      exact ⟨(chk_iff hl).1 hc, fun e he => (key e he).1, fun e he => (key e he).2⟩
  · intro h
    rw [(chk_iff hl).2 h.ord]
    simp only [cond_true, List.all_eq_true]
    intro i hi
    have hi : i < c.Bw.length := by simp [List.mem_range'] at hi; omega
    have hm := List.getElem_mem hi
    have h1 := h.v _ hm
    have h2 := h.a _ hm
    unfold good24 bad24
    rw [getD_at hi, dF (by omega), dF (by omega)]; rfl
theorem badC_mk {c : CcM} (h : Bok c) (hl : c.Bw.length < 4294967296) : badC c = false := by
  have := h.m1; have := h.m2; have := h.w1; have := h.w2; have := h.md
  refine bOr_mk (bOr_mk (bOr_mk (bOr_mk (bOr_mk (bOr_mk (nF ?_) (nF h.br)) (nF ?_)) (nF ?_)) (dF (by omega))) (dF (by omega))) (nF ((entriesM_iff hl).2 h.en))
  · exact bAnd_mk (bAnd_mk (bAnd_mk (bAnd_mk (bAnd_mk (bAnd_mk (dT h.k) (dT (by omega))) (dT (by omega))) (dT (by omega))) (dT (by omega))) (dT h.ss)) (dT h.ac)
  · exact all_mk (okV_mk h.t1.1 h.t1.2) (all_mk (okV_mk h.t2.1 h.t2.2) (all_mk (okV_mk h.t3.1 h.t3.2) (all_mk (okV_mk h.t4.1 h.t4.2) (all_mk (okV_mk h.t5.1 h.t5.2) (all_mk (okV_mk h.t6.1 h.t6.2) rfl)))))
  · exact bAnd_mk (bAnd_mk (bAnd_mk (all_mk (okV_mk h.n1.1 h.n1.2) rfl) (all_mk (okV_mk h.n2.1 h.n2.2) rfl)) (all_mk (okV_mk h.n3.1 h.n3.2) rfl)) (all_mk (okV_mk h.n4.1 h.n4.2) rfl)
theorem badC_inv {c : CcM} (h : badC c = false) (hl : c.Bw.length < 4294967296) : Bok c := by
  unfold badC sixM at h
  obtain ⟨h, h7⟩ := bOr_false' h
  obtain ⟨h, h6⟩ := bOr_false' h
  obtain ⟨h, h5⟩ := bOr_false' h
  obtain ⟨h, h4⟩ := bOr_false' h
  obtain ⟨h, h3⟩ := bOr_false' h
  obtain ⟨h1, h2⟩ := bOr_false' h
  have h6 := of_decide_eq_false h6
  have h5 := of_decide_eq_false h5
  obtain ⟨g, g7⟩ := bAnd_true' (nT h1)
  obtain ⟨g, g6⟩ := bAnd_true' g
  obtain ⟨g, g5⟩ := bAnd_true' g
  obtain ⟨g, g4⟩ := bAnd_true' g
  obtain ⟨g, g3⟩ := bAnd_true' g
  obtain ⟨g1, g2⟩ := bAnd_true' g
  obtain ⟨t1, t⟩ := all_inv (nT h3)
  obtain ⟨t2, t⟩ := all_inv t
  obtain ⟨t3, t⟩ := all_inv t
  obtain ⟨t4, t⟩ := all_inv t
  obtain ⟨t5, t⟩ := all_inv t
  obtain ⟨t6, -⟩ := all_inv t
  obtain ⟨n, n4⟩ := bAnd_true' (nT h4)
  obtain ⟨n, n3⟩ := bAnd_true' n
  obtain ⟨n1, n2⟩ := bAnd_true' n
  exact ⟨of_decide_eq_true g1, of_decide_eq_true g2, of_decide_eq_true g3, of_decide_eq_true g4, of_decide_eq_true g5, of_decide_eq_true g6, of_decide_eq_true g7, nT h2, okV_iff t1, okV_iff t2, okV_iff t3, okV_iff t4, okV_iff t5, okV_iff t6,
    okV_iff (all_inv n1).1, okV_iff (all_inv n2).1, okV_iff (all_inv n3).1, okV_iff (all_inv n4).1, by omega, (entriesM_iff hl).1 (nT h7)⟩

structure Sok (s : Sample) : Prop where
  n : 0 ≤ s.Now ∧ s.Now ≤ 1125899906842624
  g : 0 ≤ s.Given ∧ s.Given ≤ 1125899906842624
  r : 0 ≤ s.Rtt ∧ s.Rtt ≤ 1125899906842624
  a : 0 ≤ s.Acked ∧ s.Acked ≤ 1073741824
  rt : 0 ≤ s.Rate
theorem badS_inv {s : Sample} (h : badS s = false) : Sok s := by
  unfold badS at h
  obtain ⟨h, h3⟩ := bOr_false' h
  obtain ⟨h1, h2⟩ := bOr_false' h
  obtain ⟨a1, x⟩ := all_inv (nT h1)
  obtain ⟨a2, x⟩ := all_inv x
  obtain ⟨-, x⟩ := all_inv x
  obtain ⟨a4, -⟩ := all_inv x
  obtain ⟨b1, -⟩ := all_inv (nT h2)
  have h3 := of_decide_eq_false h3
  exact ⟨okV_iff a1, okV_iff a2, okV_iff a4, okV_iff b1, by omega⟩

/-- the same controller, the same number of entries at least -/
structure St9 (c d : CcM) : Prop where
  ok : Bok d
  m : d.Mss = c.Mss
  l : d.Bw.length ≤ c.Bw.length + 1
theorem st_a1 {c : CcM} {s : Sample} (h : Bok c) (hs : Sok s) : Bok (a1 c s) ∧ (a1 c s).Mss = c.Mss ∧ (a1 c s).Bw = c.Bw := by
  unfold a1
  rw [CcM.mrg_eq]
  cases decide (s.Before < c.NextAt) with
  | true => exact ⟨h, rfl, rfl⟩
  | false =>
    have := h.t6
    have e : IntKind.i64.wrap (c.Round + 1) = c.Round + 1 := wrap_i64 (by omega) (by omega)
    have hr : c.Round ≤ (roundM c s).Round ∧ (roundM c s).Round ≤ 1125899906842624 := by
      show c.Round ≤ (if IntKind.i64.wrap (c.Round + 1) < 1125899906842624 then IntKind.i64.wrap (c.Round + 1) else 1125899906842624) ∧ (if IntKind.i64.wrap (c.Round + 1) < 1125899906842624 then IntKind.i64.wrap (c.Round + 1) else 1125899906842624) ≤ 1125899906842624
      rw [e]; split <;> omega
    exact ⟨⟨h.k, h.m1, h.m2, h.w1, h.w2, h.ss, h.ac, h.br, h.t1, h.t2, hs.g, h.t4, h.t5, ⟨by show 0 ≤ (roundM c s).Round; omega, hr.2⟩, h.n1, h.n2, h.n3, h.n4, h.md, h.en.mono hr.1⟩, rfl, rfl⟩
theorem st_speed {c : CcM} {s : Sample} (h : Bok c) (hl : c.Bw.length < 4294967296) (hs : Sok s) : Bok (speedM c s) ∧ (speedM c s).Mss = c.Mss ∧ (speedM c s).Bw.length ≤ c.Bw.length + 1 := by
  unfold speedM
  rw [CcM.mrg_eq]
  cases skipM c s with
  | true => exact ⟨h, rfl, by simp⟩
  | false =>
    simp only [cond_false]
    have hrate : rateM s ≤ 1099511627776 := by unfold rateM; split <;> omega
    have hv : v16 c s ≤ 1099511627776 := by
      unfold v16
      cases hsm : sameM c with
      | false => exact hrate
      | true =>
        obtain ⟨h1, -⟩ := bAnd_true' hsm
        have h1 := of_decide_eq_true h1
        have hle : (lastE c).V ≤ 1099511627776 := by
          have e : lastE c = c.Bw[c.Bw.length - 1]'(by omega) := by
            unfold lastE lastI
            rw [wrap_i64 (by omega) (by omega)]
            have : ((c.Bw.length : Int) - 1).toNat = c.Bw.length - 1 := by omega
            rw [this, getD_at (by omega)]
          rw [e]
          exact h.en.v _ (List.getElem_mem _)
        simp only [cond_true]
        split <;> omega
    have hL : Ents (l16 c) c.Round ∧ (l16 c).length ≤ c.Bw.length := by
      unfold l16
      cases sameM c with
      | false => exact ⟨h.en, Nat.le_refl _⟩
      | true =>
        have := h.en.sub 0 (lastI c).toNat
        refine ⟨by simpa using this, ?_⟩
        simp only [cond_true, List.length_take]; omega
    obtain ⟨e1, e2⟩ := put_ents (win := 10) hL.1 (by omega) hv
    exact ⟨⟨h.k, h.m1, h.m2, h.w1, h.w2, h.ss, h.ac, h.br, h.t1, h.t2, h.t3, h.t4, h.t5, h.t6, h.n1, h.n2, h.n3, h.n4, h.md, e1⟩, by first | trivial | rfl, by show (p16 c s).length ≤ _; unfold p16; omega⟩
theorem st_short {c : CcM} {s : Sample} (h : Bok c) (hs : Sok s) : Bok (shortM c s) := by
  unfold shortM
  cases updM c s with
  | true => exact ⟨h.k, h.m1, h.m2, h.w1, h.w2, h.ss, h.ac, h.br, hs.r, hs.n, h.t3, h.t4, h.t5, h.t6, h.n1, h.n2, h.n3, h.n4, h.md, h.en⟩
  | false => exact ⟨h.k, h.m1, h.m2, h.w1, h.w2, h.ss, h.ac, h.br, h.t1, h.t2, h.t3, h.t4, h.t5, h.t6, h.n1, h.n2, h.n3, h.n4, h.md, h.en⟩
theorem best_bd {c : CcM} (h : Bok c) : 0 ≤ bestV c.Bw ∧ bestV c.Bw ≤ 1099511627776 := by
  have he := h.en
  cases hb : c.Bw with
  | nil => simp [bestV]
  | cons e l =>
    rw [hb] at he
    have h1 := (he.ord 0 (by simp)).1
    have h2 := he.v e (by simp)
    simp [mayM] at h1
    simp only [bestV]; omega
theorem st_full {c : CcM} (h : Bok c) : Bok (fullM c) := by
  have hb := best_bd h
  have hn := h.n2
  have hf : 0 ≤ fullN1 c ∧ fullN1 c ≤ 3 := by
    unfold fullN1
    rw [wrap_i64 (by omega) (by omega)]; split <;> omega
  unfold fullM
  simp only
  cases decide (bestV c.Bw = 0) with
  | true => exact ⟨h.k, h.m1, h.m2, h.w1, h.w2, h.ss, h.ac, h.br, h.t1, h.t2, h.t3, h.t4, h.t5, h.t6, h.n1, h.n2, h.n3, h.n4, h.md, h.en⟩
  | false =>
    cases decide (IntKind.i64.wrap (4 * bestV c.Bw) ≥ IntKind.i64.wrap (5 * c.Full)) with
    | true => exact ⟨h.k, h.m1, h.m2, h.w1, h.w2, h.ss, h.ac, h.br, h.t1, h.t2, h.t3, h.t4, h.t5, h.t6, hb, by show (0 : Int) ≤ 0 ∧ (0 : Int) ≤ 3; omega, h.n3, h.n4, h.md, h.en⟩
    | false =>
      cases decide (fullN1 c = 3) with
      | true => exact ⟨h.k, h.m1, h.m2, h.w1, h.w2, h.ss, h.ac, h.br, h.t1, h.t2, h.t3, h.t4, h.t5, h.t6, h.n1, hf, h.n3, h.n4, by show (1 : Int) ≤ 2 ∧ (2 : Int) ≤ 4; omega, h.en⟩
      | false => exact ⟨h.k, h.m1, h.m2, h.w1, h.w2, h.ss, h.ac, h.br, h.t1, h.t2, h.t3, h.t4, h.t5, h.t6, h.n1, hf, h.n3, h.n4, h.md, h.en⟩
theorem st_probe {c : CcM} {now : Int} (h : Bok c) (hn : 0 ≤ now ∧ now ≤ 1125899906842624) : Bok (probeM c now) :=
  ⟨h.k, h.m1, h.m2, h.w1, h.w2, h.ss, h.ac, h.br, h.t1, h.t2, h.t3, hn, h.t5, h.t6, h.n1, h.n2, by show (0 : Int) ≤ 2 ∧ (2 : Int) ≤ 7; omega, h.n4, by show (1 : Int) ≤ 3 ∧ (3 : Int) ≤ 4; omega, h.en⟩
theorem st_cycle {c : CcM} {s : Sample} (h : Bok c) (hs : Sok s) : Bok (cycleM c s) := by
  unfold cycleM
  rw [CcM.mrg_eq]
  cases drainM c s with
  | true => exact st_probe h hs.n
  | false =>
    simp only [cond_false]
    have hp := h.n3
    have hq : 0 ≤ (IntKind.i64.wrap (c.Phase + 1)).tmod 8 ∧ (IntKind.i64.wrap (c.Phase + 1)).tmod 8 ≤ 7 := by
      rw [wrap_i64 (by omega) (by omega), Int.tmod_eq_emod_of_nonneg (by omega)]; omega
    unfold nextM
    cases turnM c s with
    | true => exact ⟨h.k, h.m1, h.m2, h.w1, h.w2, h.ss, h.ac, h.br, h.t1, h.t2, h.t3, hs.n, h.t5, h.t6, h.n1, h.n2, hq, h.n4, h.md, h.en⟩
    | false => exact ⟨h.k, h.m1, h.m2, h.w1, h.w2, h.ss, h.ac, h.br, h.t1, h.t2, h.t3, h.t4, h.t5, h.t6, h.n1, h.n2, h.n3, h.n4, h.md, h.en⟩
theorem st_ask {c : CcM} {s : Sample} (late : Bool) (h : Bok c) (hs : Sok s) : Bok (askM c s late) := by
  have hn := hs.n
  have := h.w1; have := h.w2; have := h.m1; have := h.n4
  have z : (0 : Int) ≤ 0 ∧ (0 : Int) ≤ 1125899906842624 := by omega
  have hD : Bok (askD c s) := by
    have : c.Mss ≤ (if c.Prior > c.Cwnd then c.Prior else c.Cwnd) ∧ (if c.Prior > c.Cwnd then c.Prior else c.Cwnd) ≤ 1073741824 := by split <;> omega
    exact ⟨h.k, h.m1, h.m2, this.1, this.2, h.ss, h.ac, h.br, h.t1, hn, h.t3, h.t4, z, h.t6, h.n1, h.n2, h.n3, h.n4, h.md, h.en⟩
  unfold askM
  repeat rw [CcM.mrg_eq]
  cases bAnd late (!decide (c.Mode = 4)) with
  | true => exact ⟨h.k, h.m1, h.m2, h.w1, h.w2, h.ss, h.ac, h.br, h.t1, h.t2, h.t3, h.t4, z, h.t6, h.n1, h.n2, h.n3, by show 0 ≤ c.Cwnd ∧ c.Cwnd ≤ 1073741824; omega, by show (1 : Int) ≤ 4 ∧ (4 : Int) ≤ 4; omega, h.en⟩
  | false =>
    cases decide (c.Mode = 4) with
    | false => exact h
    | true =>
      cases bAnd (decide (c.DoneAt = 0)) (decide (s.Flight ≤ IntKind.i64.wrap (4 * c.Mss))) with
      | true =>
        have e : IntKind.i64.wrap (s.Now + 200000) = s.Now + 200000 := wrap_i64 (by omega) (by omega)
        have : 0 ≤ (askC c s).DoneAt ∧ (askC c s).DoneAt ≤ 1125899906842624 := by
          show 0 ≤ (if IntKind.i64.wrap (s.Now + 200000) < 1125899906842624 then IntKind.i64.wrap (s.Now + 200000) else 1125899906842624) ∧ (if IntKind.i64.wrap (s.Now + 200000) < 1125899906842624 then IntKind.i64.wrap (s.Now + 200000) else 1125899906842624) ≤ 1125899906842624
          rw [e]; split <;> omega
        exact ⟨h.k, h.m1, h.m2, h.w1, h.w2, h.ss, h.ac, h.br, h.t1, h.t2, h.t3, h.t4, this, h.t6, h.n1, h.n2, h.n3, h.n4, h.md, h.en⟩
      | false =>
        cases bAnd (decide (c.DoneAt > 0)) (decide (s.Now ≥ c.DoneAt)) with
        | false => exact h
        | true =>
          cases decide (c.FullN = 3) with
          | true => exact st_probe hD hn
          | false => exact ⟨hD.k, hD.m1, hD.m2, hD.w1, hD.w2, hD.ss, hD.ac, hD.br, hD.t1, hD.t2, hD.t3, hD.t4, hD.t5, hD.t6, hD.n1, hD.n2, hD.n3, hD.n4, by show (1 : Int) ≤ 1 ∧ (1 : Int) ≤ 4; omega, hD.en⟩
theorem st_window {c : CcM} {s : Sample} (h : Bok c) : Bok (windowM c s) := by
  have := h.m2
  have hc := clamp_bd (x := winW c s) (show c.Mss ≤ 1073741824 by omega)
  exact ⟨h.k, h.m1, h.m2, hc.1, hc.2, h.ss, h.ac, h.br, h.t1, h.t2, h.t3, h.t4, h.t5, h.t6, h.n1, h.n2, h.n3, h.n4, h.md, h.en⟩
theorem same_ask (c : CcM) (s : Sample) (late : Bool) : (askM c s late).Mss = c.Mss ∧ (askM c s late).Bw = c.Bw := by
  unfold askM
  repeat rw [CcM.mrg_eq]
  cases bAnd late (!decide (c.Mode = 4)) <;> cases decide (c.Mode = 4) <;> cases bAnd (decide (c.DoneAt = 0)) (decide (s.Flight ≤ IntKind.i64.wrap (4 * c.Mss))) <;> cases bAnd (decide (c.DoneAt > 0)) (decide (s.Now ≥ c.DoneAt)) <;> cases decide (c.FullN = 3) <;> exact ⟨rfl, rfl⟩
theorem b_ack {c : CcM} {s : Sample} (h : badC c = false) (hl : c.Bw.length < 4294967295) (k : badS s = false) : badC (ackM c s) = false ∧ (ackM c s).Kind = 3 ∧ (ackM c s).Mss = c.Mss ∧ (ackM c s).Bw.length ≤ c.Bw.length + 1 := by
  have hb := badC_inv h (by omega)
  have hs := badS_inv k
  obtain ⟨h1, m1, l1⟩ := st_a1 hb hs
  obtain ⟨h2, m2, l2⟩ := st_speed h1 (by rw [l1]; omega) hs
  rw [l1] at l2
  have h3 : Bok (a3 c s) := st_short h2 hs
  have m3 : (a3 c s).Mss = c.Mss := m2.trans m1
  have l3 : (a3 c s).Bw = (speedM (a1 c s) s).Bw := rfl
  have h4 : Bok (a4 c s) ∧ (a4 c s).Mss = c.Mss ∧ (a4 c s).Bw = (a3 c s).Bw := by
    unfold a4
    rw [CcM.mrg_eq]
    cases isFull c s with
    | true => exact ⟨st_full h3, m3, rfl⟩
    | false => exact ⟨h3, m3, rfl⟩
  obtain ⟨h4, m4, l4⟩ := h4
  have h5 : Bok (a5 c s) := st_cycle h4 hs
  have m5 : (a5 c s).Mss = c.Mss ∧ (a5 c s).Bw = (a4 c s).Bw := by
    unfold a5 cycleM
    rw [CcM.mrg_eq]
    cases drainM (a4 c s) s <;> exact ⟨m4, rfl⟩
  have h6 : Bok (a6 c s) := st_ask _ h5 hs
  have m6 := same_ask (a5 c s) s (late7 c s)
  have h7 : Bok (ackM c s) := st_window h6
  have e1 : (ackM c s).Mss = c.Mss := m6.1.trans m5.1
  have e2 : (ackM c s).Bw = (speedM (a1 c s) s).Bw := (m6.2.trans m5.2).trans (l4.trans l3)
  rw [e2]
  exact ⟨badC_mk h7 (by rw [e2]; omega), h7.k, e1, l2⟩
theorem b_to {c : CcM} (h : badC c = false) (hl : c.Bw.length < 4294967296) : badC (toM c) = false := by
  have hb := badC_inv h hl
  have := hb.m1; have := hb.m2; have := hb.w1; have := hb.w2
  exact badC_mk ⟨hb.k, hb.m1, hb.m2, Int.le_refl _, by show c.Mss ≤ 1073741824; omega, hb.ss, hb.ac, hb.br, hb.t1, hb.t2, hb.t3, hb.t4, hb.t5, hb.t6, hb.n1, hb.n2, hb.n3, by show 0 ≤ c.Cwnd ∧ c.Cwnd ≤ 1073741824; omega, hb.md, hb.en⟩ hl

end Go.Proofs

/-
  The cc seat: CcStays, the plain law and its spec.
-/
namespace Go.Proofs
open Go Go.Im

theorem kinds {c : CcM} (h : badA c = false) (hl : c.Bw.length < 4294967296) : (c.Kind = 1 ∧ badR c = false) ∨ (c.Kind = 2 ∧ badQ c = false) ∨ (c.Kind = 3 ∧ badC c = false) := by
  unfold badA at h
  by_cases h1 : c.Kind = 1
  · rw [dT h1] at h; exact .inl ⟨h1, h⟩
  · rw [dF h1] at h
    by_cases h2 : c.Kind = 2
    · rw [dT h2] at h; exact .inr (.inl ⟨h2, h⟩)
    · rw [dF h2] at h; exact .inr (.inr ⟨(badC_inv h hl).k, h⟩)
theorem good_same {c : CcM} (h : badA c = false) : Good c c 0 := .inr ⟨rfl, h, rfl, rfl, by omega⟩
theorem good_b {c d : CcM} (hk : d.Kind = 3) (h : badC d = false) (h1 : d.Kind = c.Kind) (h2 : d.Mss = c.Mss) (h3 : d.Bw.length ≤ c.Bw.length + 1) : Good c d 0 :=
  .inr ⟨rfl, badA_c (by omega) (by omega) h, h1, h2, h3⟩
theorem ask_2 {c : CcM} (h : badA c = false) {b : Bool} (hb : b = false) : askE c b = 2 := by unfold askE; rw [h, hb]; rfl
theorem bO {c : CcM} (h : badA c = false) (b : Bool) : bOr (badA c) (!b) = !b := by rw [h]; rfl

theorem g_loss {c : CcM} (h : badA c = false) (hl : c.Bw.length < 4294967295) (n : Int) : Good c (lossA c n) (lossE c n) := by
  unfold lossA lossE
  rw [bO h]
  cases hn : szB n with
  | false => exact .inl (ask_2 h rfl)
  | true =>
    simp only [Bool.not_true, cond_false]
    rcases kinds h (by omega) with ⟨hk, hb⟩ | ⟨hk, hb⟩ | ⟨hk, hb⟩
    · rw [dT hk]
      obtain ⟨e, b, p, k, m, w⟩ := r_loss hb n (szB_iff hn)
      simp only [cond_true]
      rw [e]
      exact good_r k b p (k.trans hk.symm) m w
    · rw [dF (show ¬ c.Kind = 1 by omega), dT hk]; exact q_loss hb n
    · rw [dF (show ¬ c.Kind = 1 by omega), dF (show ¬ c.Kind = 2 by omega)]; exact good_same h
theorem g_to {c : CcM} (h : badA c = false) (hl : c.Bw.length < 4294967295) (n : Int) : Good c (toA c n) (toE c n) := by
  unfold toA toE
  rcases kinds h (by omega) with ⟨hk, hb⟩ | ⟨hk, hb⟩ | ⟨hk, hb⟩
  · rw [dT hk]
    simp only [cond_true]
    cases hn : szB n with
    | false => exact .inl (beg_2 hb hn)
    | true =>
      obtain ⟨e, b, p, k, m, w⟩ := r_loss hb n (szB_iff hn)
      rw [e]
      have := b.m2
      exact good_r (c := c) (d := rTo c n) k ⟨b.m1, b.m2, Int.le_refl _, by show (rLoss c n).Mss ≤ 1073741824; omega, b.s1, b.s2, b.a1, b.a2⟩ p (k.trans hk.symm) m w
  · rw [dF (show ¬ c.Kind = 1 by omega), dT hk]; exact q_to hb n
  · rw [dF (show ¬ c.Kind = 1 by omega), dF (show ¬ c.Kind = 2 by omega)]
    simp only [cond_false]
    unfold tM tE
    rw [hb]
    cases hn : (!([n].all (okV 1073741824))) with
    | true => exact .inl rfl
    | false => exact good_b (c := c) (d := toM c) hk (b_to hb (by omega)) rfl rfl (by show c.Bw.length ≤ c.Bw.length + 1; omega)
theorem b_cw {c : CcM} (h : badC c = false) (hl : c.Bw.length < 4294967296) {w : Int} (hw : c.Mss ≤ w ∧ w ≤ 1073741824) : badC { c with Cwnd := w } = false := by
  have hb := badC_inv h hl
  exact badC_mk ⟨hb.k, hb.m1, hb.m2, hw.1, hw.2, hb.ss, hb.ac, hb.br, hb.t1, hb.t2, hb.t3, hb.t4, hb.t5, hb.t6, hb.n1, hb.n2, hb.n3, hb.n4, hb.md, hb.en⟩ hl
theorem g_cw {c : CcM} (h : badA c = false) (hl : c.Bw.length < 4294967296) {w : Int} (hw : c.Mss ≤ w ∧ w ≤ 1073741824) : Good c { c with Cwnd := w } 0 := by
  rcases kinds h hl with ⟨hk, hb⟩ | ⟨hk, hb⟩ | ⟨hk, hb⟩
  · obtain ⟨-, b, p⟩ := badR_inv hb
    exact good_r (c := c) (d := { c with Cwnd := w }) hk ⟨b.m1, b.m2, hw.1, hw.2, b.s1, b.s2, b.a1, b.a2⟩ p rfl rfl rfl
  · obtain ⟨-, b, q, p⟩ := badQ_inv hb
    exact good_q (c := c) (d := { c with Cwnd := w }) hk ⟨b.m1, b.m2, hw.1, hw.2, b.s1, b.s2, b.a1, b.a2⟩ ⟨q.x1, q.x2, q.x3, q.x4, q.x5⟩ p rfl rfl rfl
  · exact good_b (c := c) (d := { c with Cwnd := w }) hk (b_cw hb hl hw) rfl rfl (by show c.Bw.length ≤ c.Bw.length + 1; omega)
theorem mss_bd {c : CcM} (h : badA c = false) (hl : c.Bw.length < 4294967296) : 1 ≤ c.Mss ∧ c.Mss ≤ 65000 ∧ c.Mss ≤ c.Cwnd ∧ c.Cwnd ≤ 1073741824 := by
  rcases kinds h hl with ⟨hk, hb⟩ | ⟨hk, hb⟩ | ⟨hk, hb⟩
  · have b := (badR_inv hb).2.1; exact ⟨b.m1, b.m2, b.w1, b.w2⟩
  · have b := (badQ_inv hb).2.1; exact ⟨b.m1, b.m2, b.w1, b.w2⟩
  · have b := badC_inv hb hl; exact ⟨b.m1, b.m2, b.w1, b.w2⟩
theorem g_lim {c : CcM} (h : badA c = false) (hl : c.Bw.length < 4294967295) (n : Int) : Good c (limA c n) (limE c n) := by
  unfold limA limE
  rw [bO h]
  cases hn : szB n with
  | false => exact .inl (ask_2 h rfl)
  | true =>
    have := mss_bd h (by omega)
    have := szB_iff hn
    exact g_cw h (by omega) ⟨le_max.1, max_le (by omega) (by omega)⟩
theorem g_done {c : CcM} (h : badA c = false) (hl : c.Bw.length < 4294967295) : Good c (doneA c) (errA c) := by
  have e : errA c = 0 := by unfold errA; rw [h]; rfl
  unfold doneA
  rw [h, e]
  simp only [cond_false]
  have key : c.Kind = 1 ∨ c.Kind = 2 → Good c { c with Cwnd := c.Ssthresh } 0 := fun hk => by
    refine g_cw h (by omega) ?_
    rcases kinds h (by omega) with ⟨hk', hb⟩ | ⟨hk', hb⟩ | ⟨hk', hb⟩
    · have b := (badR_inv hb).2.1; have := b.s1; have := b.m1; exact ⟨by omega, b.s2⟩
    · have b := (badQ_inv hb).2.1; have := b.s1; have := b.m1; exact ⟨by omega, b.s2⟩
    · omega
  by_cases h2 : c.Kind = 2
  · rw [dT h2]; exact key (.inr h2)
  · rw [dF h2]
    by_cases h1 : c.Kind = 1
    · rw [dT h1]; exact key (.inl h1)
    · rw [dF h1]; exact good_same h
theorem g_rest {c : CcM} (h : badA c = false) (hl : c.Bw.length < 4294967295) (idle rto used : Int) : Good c (restA c idle rto used) (restE c idle rto used) := by
  unfold restA restE
  rw [bO h]
  cases hn : okR idle rto used with
  | false => exact .inl (ask_2 h rfl)
  | true =>
    simp only [Bool.not_true, cond_false]
    cases hs : stopR c idle rto with
    | true => exact good_same h
    | false =>
      simp only [cond_false]
      obtain ⟨hs1, -⟩ := bOr_false' hs
      obtain ⟨hs1, -⟩ := bOr_false' hs1
      have hk3 : c.Kind ≠ 3 := of_decide_eq_false hs1
      have hm := mss_bd h (by omega)
      have hW : c.Mss ≤ (restM c idle rto used).Cwnd ∧ (restM c idle rto used).Cwnd ≤ 1073741824 := by
        show c.Mss ≤ min64 c.Cwnd (max64 (max64 (rsW c idle rto) used) (IntKind.i64.wrap (2 * c.Mss))) ∧ min64 c.Cwnd (max64 (max64 (rsW c idle rto) used) (IntKind.i64.wrap (2 * c.Mss))) ≤ 1073741824
        refine ⟨le_min hm.2.2.1 (Int.le_trans ?_ le_max.2), Int.le_trans min_le.1 hm.2.2.2⟩
        rw [wrap_i64 (by omega) (by omega)]; omega
      have hS : ∀ b : Base c, 2 * c.Mss ≤ (restM c idle rto used).Ssthresh ∧ (restM c idle rto used).Ssthresh ≤ 1073741824 := fun b => by
        have := b.s1; have := b.s2
        refine ⟨Int.le_trans b.s1 le_max.1, max_le b.s2 ?_⟩
        rw [wrap_i64 (n := 3 * c.Cwnd) (by omega) (by omega), Int.tdiv_eq_ediv_of_nonneg (by omega), wrap_i64 (by omega) (by omega)]; omega
      rcases kinds h (by omega) with ⟨hk, hb⟩ | ⟨hk, hb⟩ | ⟨hk, hb⟩
      · obtain ⟨-, b, p⟩ := badR_inv hb
        exact good_r (c := c) (d := restM c idle rto used) hk ⟨b.m1, b.m2, hW.1, hW.2, (hS b).1, (hS b).2, b.a1, b.a2⟩ p rfl rfl rfl
      · obtain ⟨-, b, q, p⟩ := badQ_inv hb
        exact good_q (c := c) (d := restM c idle rto used) hk ⟨b.m1, b.m2, hW.1, hW.2, (hS b).1, (hS b).2, b.a1, b.a2⟩ ⟨q.x1, q.x2, q.x3, q.x4, q.x5⟩ p rfl rfl rfl
      · exact absurd hk hk3
theorem g_ack {c : CcM} (h : badA c = false) (hl : c.Bw.length < 4294967295) (s : Sample) (srtt : Int) : Good c (ackA c s srtt) (ackE c s srtt) := by
  unfold ackA ackE
  rcases kinds h (by omega) with ⟨hk, hb⟩ | ⟨hk, hb⟩ | ⟨hk, hb⟩
  · rw [dF (show ¬ c.Kind = 3 by omega), bO h, dT hk]
    cases hn : okAck s srtt with
    | false => exact .inl (ask_2 h rfl)
    | true =>
      obtain ⟨h1, -⟩ := bAnd_true' hn
      obtain ⟨h1, -⟩ := bAnd_true' h1
      exact r_ack hb _ _ (szB_iff h1)
  · rw [dF (show ¬ c.Kind = 3 by omega), bO h, dF (show ¬ c.Kind = 1 by omega)]
    cases hn : okAck s srtt with
    | false => exact .inl (ask_2 h rfl)
    | true =>
      obtain ⟨h1, h3⟩ := bAnd_true' hn
      obtain ⟨h1, h2⟩ := bAnd_true' h1
      exact q_ack hb _ _ _ _ (szB_iff h1) (tmB_iff h2) (tmB_iff h3)
  · rw [dT hk]
    simp only [cond_true]
    unfold outM outE
    rw [hb]
    cases hs : badS s with
    | true => exact .inl rfl
    | false =>
      obtain ⟨a, b, d, e⟩ := b_ack hb hl hs
      exact good_b b a (b.trans hk.symm) d e
theorem g_W {c : CcM} (h : badA c = false) (hl : c.Bw.length < 4294967295) (l : List Sample) (i w : Int) : Good c (dW l i w c) (eW l i w c) := by
  unfold dW eW
  repeat rw [CcM.mrg_eq]
  cases decide (w = 0) with
  | true => exact g_loss h hl _
  | false =>
    cases decide (w = 1) with
    | true => exact g_to h hl _
    | false =>
      cases decide (w = 2) with
      | true => exact g_done h hl
      | false =>
        cases decide (w = 3) with
        | true => exact g_rest h hl _ _ _
        | false =>
          cases decide (w = 4) with
          | true => exact g_lim h hl _
          | false =>
            cases w567 w with
            | true => exact g_ack h hl _ _
            | false => exact good_same h

theorem mergeOk_tt (b : Bool) : mergeOk b true true = true := rfl
theorem kW_true {l : List Sample} {i w : Int} {c : CcM} (h1 : cS l i = true) (h2 : lb c = true) : kW l i w c = true := by
  unfold kW
  rw [h1, h2]; rfl
theorem paM_bd (c : CcM) (srtt : Int) : 7 ≤ paM c srtt 7 ∧ paM c srtt 7 ≤ 1099511627776 :=
  ⟨le_min (by omega) (Int.le_trans (show (7 : Int) ≤ max64 1 7 from le_max.2) le_max.1), min_le.1⟩

theorem loopR_true (k mss : Int) (l : List Sample) (wh : List Int) (hw : l.length ≤ wh.length) (hl : l.length ≤ 1000) : ∀ (t i : Nat) (c : CcM), i + t = l.length → badA c = false → c.Kind = k → c.Mss = mss → c.Bw.length ≤ i →
    (loopR k mss l wh (t + 1) c i).1 = true ∧ ((loopR k mss l wh (t + 1) c i).2 = none ∨ (loopR k mss l wh (t + 1) c i).2 = some true)
  | 0, i, c, h, _, _, _, _ => by
    have : decide ((i : Int) < (l.length : Int)) = false := dF (by omega)
    unfold loopR
    rw [this]; exact ⟨rfl, .inl rfl⟩
  | t + 1, i, c, h, hb, hk, hm, hn => by
    have e0 : decide ((i : Int) < (l.length : Int)) = true := dT (by omega)
    have e1 : cS l i = true := by unfold cS; rw [dT (show (0 : Int) ≤ i by omega), dT (show (i : Int) < l.length by omega)]; rfl
    have e2 : cW wh i = true := by unfold cW; rw [dT (show (0 : Int) ≤ i by omega), dT (show (i : Int) < wh.length by omega)]; rfl
    have e3 : lb c = true := by unfold lb; simp only [Nat.blt_eq]; omega
    have e4 := kW_true (w := whW wh i) e1 e3
    have hg := g_W hb (by omega) l i (whW wh i)
    have e5 : IntKind.i64.wrap ((i : Int) + 1) = ((i + 1 : Nat) : Int) := by rw [wrap_i64 (by omega) (by omega)]; simp
    unfold loopR
    simp only [e0, e2, e4, e1, cond_true, e5]
    generalize dW l i (whW wh i) c = d at *
    generalize eW l i (whW wh i) c = e at *
    rcases hg with rfl | ⟨rfl, h1, h2, h3, h4⟩
    · exact ⟨rfl, .inr rfl⟩
    · have hmb := mss_bd h1 (by omega)
      have f1 : lenOk d.Bw.length = true := Nat.ble_eq_true_of_le (by omega)
      have f2 : lb d = true := by unfold lb; simp only [Nat.blt_eq]; omega
      have f3 : badD k mss d = false := by
        unfold badD
        rw [errA_dec, h1]
        exact bOr_mk (bOr_mk (bOr_mk (bOr_mk rfl (dF (by omega))) (dF (by omega))) (nF (dT (h2.trans hk)))) (nF (dT (h3.trans hm)))
      have f4 : badP (paV d (smp l i)) = false := by
        have := paM_bd d (smp l i).Rtt
        unfold paV
        rw [h1]
        simp only [cond_false]
        exact bOr_mk (dF (by omega)) (dF (by omega))
      obtain ⟨i1, i2⟩ := loopR_true k mss l wh hw hl t (i + 1) d (by omega) h1 (h2.trans hk) (h3.trans hm) (by omega)
      simp only [f1, f2, f3, f4, i1]
      exact ⟨rfl, i2⟩

theorem new_ok {k mss : Int} (h : cnewE k mss 4 = 0) : badA (cnewM k mss 4) = false ∧ (cnewM k mss 4).Kind = k ∧ (cnewM k mss 4).Mss = mss ∧ (cnewM k mss 4).Bw.length = 0 := by
  unfold cnewE cnE at h
  unfold cnewM
  have hN : ∀ x : Int, (bif badN mss 4 then 2 else 0 : Int) = 0 → badN mss 4 = false := fun _ h => by cases hb : badN mss 4 <;> simp_all
  have hbd : badN mss 4 = false → 1 ≤ mss ∧ mss ≤ 65000 := fun h => by
    unfold badN at h
    obtain ⟨h, -⟩ := bOr_false' h
    obtain ⟨h, -⟩ := bOr_false' h
    obtain ⟨h1, h2⟩ := bOr_false' h
    have h1 := of_decide_eq_false h1
    have h2 := of_decide_eq_false h2
    omega
  by_cases h1 : k = 1
  · subst h1
    have hn := hN 0 h
    have := hbd hn
    have hw : IntKind.i64.wrap (mss * 4) = mss * 4 := wrap_i64 (by omega) (by omega)
    have e : newM 1 0 mss 4 = ⟨1, mss, mss * 4, 1073741824, 0, 0, 0, 0, 0, 0, 0, [], 0, 0, 0, 0, 0, 0, 0, 0, 0, 0⟩ := by unfold newM; rw [hn, hw]; rfl
    show badA (newM 1 0 mss 4) = false ∧ (newM 1 0 mss 4).Kind = 1 ∧ (newM 1 0 mss 4).Mss = mss ∧ (newM 1 0 mss 4).Bw.length = 0
    rw [e]
    exact ⟨badA_r rfl (badR_mk rfl ⟨this.1, this.2, by show mss ≤ mss * 4; omega, by show mss * 4 ≤ 1073741824; omega, by show 2 * mss ≤ 1073741824; omega, Int.le_refl _, Int.le_refl _, by show (0 : Int) ≤ 1073741824; omega⟩ rfl), rfl, rfl, rfl⟩
  · rw [dF h1] at h ⊢
    by_cases h2 : k = 2
    · subst h2
      have hn := hN 0 h
      have := hbd hn
      have hw : IntKind.i64.wrap (mss * 4) = mss * 4 := wrap_i64 (by omega) (by omega)
      have e : qnewM mss 4 = ⟨2, mss, mss * 4, 1073741824, 0, 0, -1, 0, 0, 0, 0, [], 0, 0, 0, 0, 0, 0, 0, 0, 0, 0⟩ := by unfold qnewM newM; rw [hn, hw]; rfl
      show badA (qnewM mss 4) = false ∧ (qnewM mss 4).Kind = 2 ∧ (qnewM mss 4).Mss = mss ∧ (qnewM mss 4).Bw.length = 0
      rw [e]
      exact ⟨badA_q rfl (badQ_mk rfl ⟨this.1, this.2, by show mss ≤ mss * 4; omega, by show mss * 4 ≤ 1073741824; omega, by show 2 * mss ≤ 1073741824; omega, Int.le_refl _, Int.le_refl _, by show (0 : Int) ≤ 1073741824; omega⟩
        ⟨by show (0 : Int) ≤ 0 ∧ (0 : Int) ≤ 1073741824; omega, by show (0 : Int) ≤ 0 ∧ (0 : Int) ≤ 1073741824; omega, by show (0 : Int) ≤ 0 ∧ (0 : Int) ≤ 1073741824; omega, by show (0 : Int) ≤ 0 ∧ (0 : Int) ≤ 2097151; omega, by show (-1 : Int) ≤ -1 ∧ (-1 : Int) ≤ 1125899906842624; omega⟩ rfl), rfl, rfl, rfl⟩
    · rw [dF h2] at h ⊢
      by_cases h3 : k = 3
      · subst h3
        have hn := hN 0 h
        have := hbd hn
        have hw : IntKind.i64.wrap (mss * 4) = mss * 4 := wrap_i64 (by omega) (by omega)
        have e : bnewM mss 4 = ⟨3, mss, mss * 4, 1073741824, 0, 0, 0, 0, 0, 0, 1, [], 0, 0, 0, 0, 0, 0, 0, 0, 0, 0⟩ := by unfold bnewM newM; rw [hn, hw]; rfl
        show badA (bnewM mss 4) = false ∧ (bnewM mss 4).Kind = 3 ∧ (bnewM mss 4).Mss = mss ∧ (bnewM mss 4).Bw.length = 0
        rw [e]
        have z : (0 : Int) ≤ 0 ∧ (0 : Int) ≤ 1125899906842624 := by omega
        exact ⟨badA_c (by show (3 : Int) ≠ 1; omega) (by show (3 : Int) ≠ 2; omega) (badC_mk ⟨rfl, this.1, this.2, by show mss ≤ mss * 4; omega, by show mss * 4 ≤ 1073741824; omega, rfl, rfl, rfl, z, z, z, z, z, z,
          by show (0 : Int) ≤ 0 ∧ (0 : Int) ≤ 1099511627776; omega, by show (0 : Int) ≤ 0 ∧ (0 : Int) ≤ 3; omega, by show (0 : Int) ≤ 0 ∧ (0 : Int) ≤ 7; omega, by show (0 : Int) ≤ 0 ∧ (0 : Int) ≤ 1073741824; omega, by show (1 : Int) ≤ 1 ∧ (1 : Int) ≤ 4; omega, ents_nil _⟩ (by show (0 : Nat) < 4294967296; omega)), rfl, rfl, rfl⟩
      · rw [dF h3] at h; cases h

def S3c : FSpec := fun args bxs => match args, bxs with | [.int .i64 _, .int .i64 _, .slice .sample _ _, .slice .i64 _ _], [] => some (true, .bool true, []) | _, _ => none
theorem hasc3 : Has 3 S3c := has_of (l := Gc3) (L := L3c) gc3 Try.func3 rfl (by kernel_rfl) (lok_one (b := loopAt Try.f3 0) (f := F3c) (by kernel_rfl) (by kernel_rfl) (lawc3 L3c)) (fun args bxs v bxs' h => by
  unfold S3c at h
  split at h <;> simp only [Option.some.injEq, Prod.mk.injEq, reduceCtorEq] at h
  obtain ⟨-, rfl, rfl⟩ := h
  rename_i k mss o l o2 wh
  refine ⟨Nat.le_of_ble_eq_true (by kernel_rfl), _, runc3 k mss o o2 l wh, ?_⟩
  cases hs : skip3 k mss l wh with
  | true => exact ⟨rfl, .refl _, leB_refl _⟩
  | false =>
    unfold skip3 at hs
    obtain ⟨hs, h3⟩ := bOr_false' hs
    obtain ⟨h1, h2⟩ := bOr_false' hs
    have h1 := of_decide_eq_true (nT h1)
    have h2 := of_decide_eq_false h2
    have h3 := of_decide_eq_false h3
    obtain ⟨a, b, c, d⟩ := new_ok h1
    obtain ⟨r1, r2⟩ := loopR_true k mss l wh (by omega) (by omega) l.length 0 (cnewM k mss 4) (by omega) a b c (by omega)
    simp only [cond_false]
    have r1' : (loopR k mss l wh (l.length + 1) (cnewM k mss 4) 0).1 = true := r1
    have r2' : (loopR k mss l wh (l.length + 1) (cnewM k mss 4) 0).2 = none ∨ (loopR k mss l wh (l.length + 1) (cnewM k mss 4) 0).2 = some true := r2
    rw [r1']
    rcases r2' with r2 | r2 <;> rw [r2] <;> exact ⟨rfl, .refl _, leB_refl _⟩) (fun h => by cases h)
end Go.Proofs
