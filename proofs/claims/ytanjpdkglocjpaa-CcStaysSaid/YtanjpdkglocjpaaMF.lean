/-
  From what an argument reads as (the rows' data) to a value of the evaluator; and the rows' outer steps, once for all laws.
-/
import Derived.Test.YtanjpdkglocjpaaME
import Derived.WalkKit
import Derived.ProofKit
import Derived.OpenShut
import Derived.JoinedCond
import Derived.Carry
import Derived.Test.YtanjpdkglocjpaaRows

namespace Go.Im
open Go.ChangeShapes Go.RowKit

/-- the shape of a type -/
inductive Sh where
  | bool | int (k : IntKind) | str | slice (u : U) | strct (l : List Sh)

def U.sh : U → Sh
  | .u8 => .int .u8
  | .i64 => .int .i64
  | .str => .str
  | .bytes => .slice .u8
  | .entry | .span | .timer => .strct [.int .i64, .int .i64]
  | .piece => .strct [.int .i64, .slice .u8]
  | .block => .strct [.int .u32, .int .u32]
  | .recd => .strct [.int .i64, .int .i64, .bool, .int .i64, .int .i64, .bool, .bool, .bool, .int .i64, .int .i64, .int .i64, .bool]
  | .datagram => .strct [.slice .u8, .int .i64]
  | .sent => .strct [.slice .u8, .int .i64, .int .i64, .int .i64, .int .i64, .int .i64, .int .i64]
  | .event => .strct [.int .i64, .int .i64, .int .i64, .slice .u8]
  | .inn => .strct [.int .i64, .int .i64, .slice .u8]
  | .sample => .strct [.int .i64, .int .i64, .int .i64, .int .i64, .bool, .int .i64, .int .i64, .int .i64]

def mapO {α β : Type} (f : α → Option β) : List α → Option (List β)
  | [] => some []
  | x :: r => match f x, mapO f r with | some y, some l => some (y :: l) | _, _ => none
def zipO {H : Type} (f : Sh → DataW H → Option (List PVal)) : List Sh → List (DataW H) → Option (List PVal)
  | [], [] => some []
  | s :: r, d :: l => match f s d, zipO f r l with | some x, some y => some (x ++ y) | _, _ => none
  | _, _ => none
def bindO {α β : Type} : Option α → (α → Option β) → Option β
  | some x, f => f x
  | none, _ => none

/-- a reading's cells -/
def ofD {H : Type} : Nat → Sh → DataW H → Option (List PVal)
  | 0, _, _ => none
  | n + 1, sh, d => match sh, d with
    | .bool, .lit (.bool b) => some [.bool b]
    | .int k, .lit (.int k' x) => match kindEq k k' with | true => some [.int k x] | false => none
    | .str, .lit (.string s) => some [.str s]
    | .slice _, .nil => some [.nils]
    | .slice u, .slice es _ => match mapO (fun d => bindO (ofD n u.sh d) u.dec) es with | some l => some [.slice u false l] | none => none
    | .strct shs, .agg ds => zipO (ofD n) shs ds
    | _, _ => none

/-- fields, one behind the other without a gap -/
def fieldsOk (P : Program) (f : TypeId → Sh → Bool) : Nat → List Field → List Sh → Option Nat
  | o, [], [] => some o
  | o, x :: r, s :: l => match Nat.beq x.offset o, f x.type s with | true, true => fieldsOk P f (o + P.cellsOf x.type) r l | _, _ => none
  | _, _, _ => none
def shOk (P : Program) : Nat → TypeId → Sh → Bool
  | 0, _, _ => false
  | n + 1, t, sh => match sh, P.underlying t with
    | .bool, some .bool => true
    | .int k, some (.int k') => kindEq k k'
    | .str, some .string => true
    | .slice u, some (.slice e) => (match Nat.beq (P.cellsOf e) u.size with | true => shOk P n e u.sh | false => false)
    | .strct shs, some (.struct fs) => (match fieldsOk P (shOk P n) 0 fs.toList shs with | some o => Nat.beq o (P.cellsOf t) | none => false)
    | _, _ => false

section
variable {H : Type} {enc : TypeId × Value → H} {P : Program} {w : World} {base : Nat} {sp : Nat → Bool} {held : Bool} {g : Gh}

/-! ### what is read has the shape's form -/
def Form : Sh → List PVal → Prop
  | .bool, cs => ∃ b, cs = [.bool b]
  | .int k, cs => ∃ x, cs = [.int k x]
  | .str, cs => ∃ s, cs = [.str s]
  | .slice u, cs => cs = [.nils] ∨ ∃ l, cs = [.slice u false l]
  | .strct _, _ => True

theorem ofD_form : ∀ {n : Nat} {sh : Sh} {d : DataW H} {cs : List PVal}, ofD n sh d = some cs → Form sh cs
  | 0, _, _, _, h => by cases h
  | n + 1, sh, d, cs, h => by
    unfold ofD at h
    split at h
    · cases h; exact ⟨_, rfl⟩
    · split at h <;> cases h; exact ⟨_, rfl⟩
    · cases h; exact ⟨_, rfl⟩
    · cases h; exact .inl rfl
    · split at h <;> cases h; exact .inr ⟨_, rfl⟩
    · trivial
    · cases h

theorem zipO_cons {f : Sh → DataW H → Option (List PVal)} {s : Sh} {r : List Sh} {ds : List (DataW H)} {cs : List PVal} (h : zipO f (s :: r) ds = some cs) :
    ∃ d l x y, ds = d :: l ∧ f s d = some x ∧ zipO f r l = some y ∧ cs = x ++ y := by
  cases ds with
  | nil => cases h
  | cons d l =>
    simp only [zipO] at h
    split at h <;> cases h
    exact ⟨d, l, _, _, rfl, ‹_›, ‹_›, rfl⟩
theorem zipO_nil {f : Sh → DataW H → Option (List PVal)} {ds : List (DataW H)} {cs : List PVal} (h : zipO f [] ds = some cs) : cs = [] := by
  cases ds <;> cases h; rfl

/-- the struct's cells, field by field -/
def Forms : List Sh → List PVal → Prop
  | [], cs => cs = []
  | s :: r, cs => ∃ x y, cs = x ++ y ∧ Form s x ∧ Forms r y
theorem ofD_forms {n : Nat} : ∀ {l : List Sh} {ds : List (DataW H)} {cs : List PVal}, zipO (ofD n) l ds = some cs → Forms l cs
  | [], _, _, h => zipO_nil h
  | s :: r, ds, cs, h => by
    obtain ⟨d, l, x, y, rfl, h1, h2, rfl⟩ := zipO_cons h
    exact ⟨x, y, rfl, ofD_form h1, ofD_forms h2⟩
theorem ofD_strct {n : Nat} {l : List Sh} {d : DataW H} {cs : List PVal} (h : ofD n (.strct l) d = some cs) : Forms l cs := by
  cases n with
  | zero => cases h
  | succ n =>
    cases d with
    | agg ds => exact ofD_forms (n := n) h
    | lit x => cases x <;> cases h
    | _ => cases h

theorem leBytes {p : PVal} (h : p = .nils ∨ ∃ l, p = .slice .u8 false l) : ∃ l, decBytes p = some l ∧ LeV (.slice .u8 false l) p := by
  rcases h with rfl | ⟨l, rfl⟩
  · exact ⟨[], rfl, .nils _ _⟩
  · exact ⟨l, rfl, .refl _⟩

theorem form_slice {u : U} {cs : List PVal} (h : Form (.slice u) cs) : ∃ p, cs = [p] ∧ (p = .nils ∨ ∃ l, p = .slice u false l) := by
  rcases h with rfl | ⟨l, rfl⟩
  · exact ⟨_, rfl, .inl rfl⟩
  · exact ⟨_, rfl, .inr ⟨l, rfl⟩⟩

/-- an element's cells can be read as an element -/
theorem dec_of {n : Nat} : ∀ {u : U} {d : DataW H} {cs : List PVal}, ofD n u.sh d = some cs → ∃ x, u.dec cs = some x ∧ LeL (u.cells x) cs := by
  intro u d cs h
  have h1 := ofD_form h
  cases u
  case u8 => obtain ⟨x, rfl⟩ := h1; exact ⟨x, rfl, leL_refl _⟩
  case i64 => obtain ⟨x, rfl⟩ := h1; exact ⟨x, rfl, leL_refl _⟩
  case str => obtain ⟨x, rfl⟩ := h1; exact ⟨x, rfl, leL_refl _⟩
  case bytes =>
    obtain ⟨p, rfl, hp⟩ := form_slice h1
    obtain ⟨l, e, hl⟩ := leBytes hp
    exact ⟨l, by simp [U.dec, dec_bytes, e], leL_cons hl leL_nil⟩
  case entry =>
    obtain ⟨_, _, rfl, ⟨a, rfl⟩, _, _, rfl, ⟨b, rfl⟩, rfl⟩ := ofD_strct h
    exact ⟨⟨a, b⟩, rfl, leL_refl _⟩
  case span =>
    obtain ⟨_, _, rfl, ⟨a, rfl⟩, _, _, rfl, ⟨b, rfl⟩, rfl⟩ := ofD_strct h
    exact ⟨⟨a, b⟩, rfl, leL_refl _⟩
  case timer =>
    obtain ⟨_, _, rfl, ⟨a, rfl⟩, _, _, rfl, ⟨b, rfl⟩, rfl⟩ := ofD_strct h
    exact ⟨⟨a, b⟩, rfl, leL_refl _⟩
  case block =>
    obtain ⟨_, _, rfl, ⟨a, rfl⟩, _, _, rfl, ⟨b, rfl⟩, rfl⟩ := ofD_strct h
    exact ⟨⟨a, b⟩, rfl, leL_refl _⟩
  case piece =>
    obtain ⟨_, _, rfl, ⟨a, rfl⟩, _, _, rfl, hb, rfl⟩ := ofD_strct h
    obtain ⟨p, rfl, hp⟩ := form_slice hb
    obtain ⟨l, e, hl⟩ := leBytes hp
    exact ⟨⟨a, l⟩, by simp [U.dec, dec_piece, e], leL_cons (.refl _) (leL_cons hl leL_nil)⟩
  case datagram =>
    obtain ⟨_, _, rfl, hb, _, _, rfl, ⟨a, rfl⟩, rfl⟩ := ofD_strct h
    obtain ⟨p, rfl, hp⟩ := form_slice hb
    obtain ⟨l, e, hl⟩ := leBytes hp
    exact ⟨⟨l, a⟩, by simp [U.dec, dec_datagram, e], leL_cons hl (leL_refl _)⟩
  case inn =>
    obtain ⟨_, _, rfl, ⟨a, rfl⟩, _, _, rfl, ⟨b, rfl⟩, _, _, rfl, hb, rfl⟩ := ofD_strct h
    obtain ⟨p, rfl, hp⟩ := form_slice hb
    obtain ⟨l, e, hl⟩ := leBytes hp
    exact ⟨⟨a, b, l⟩, by simp [U.dec, dec_inn, e], leL_cons (.refl _) (leL_cons (.refl _) (leL_cons hl leL_nil))⟩
  case event =>
    obtain ⟨_, _, rfl, ⟨a, rfl⟩, _, _, rfl, ⟨b, rfl⟩, _, _, rfl, ⟨c, rfl⟩, _, _, rfl, hb, rfl⟩ := ofD_strct h
    obtain ⟨p, rfl, hp⟩ := form_slice hb
    obtain ⟨l, e, hl⟩ := leBytes hp
    exact ⟨⟨a, b, c, l⟩, by simp [U.dec, dec_event, e], leL_cons (.refl _) (leL_cons (.refl _) (leL_cons (.refl _) (leL_cons hl leL_nil)))⟩
  case sent =>
    obtain ⟨_, _, rfl, hb, _, _, rfl, ⟨a, rfl⟩, _, _, rfl, ⟨b, rfl⟩, _, _, rfl, ⟨c, rfl⟩, _, _, rfl, ⟨d, rfl⟩, _, _, rfl, ⟨e, rfl⟩, _, _, rfl, ⟨f, rfl⟩, rfl⟩ := ofD_strct h
    obtain ⟨p, rfl, hp⟩ := form_slice hb
    obtain ⟨l, e', hl⟩ := leBytes hp
    exact ⟨⟨l, a, b, c, d, e, f⟩, by simp [U.dec, dec_sent, e'], leL_cons hl (leL_refl _)⟩
  case sample =>
    obtain ⟨_, _, rfl, ⟨a, rfl⟩, _, _, rfl, ⟨b, rfl⟩, _, _, rfl, ⟨c, rfl⟩, _, _, rfl, ⟨d, rfl⟩, _, _, rfl, ⟨e, rfl⟩, _, _, rfl, ⟨f, rfl⟩, _, _, rfl, ⟨k, rfl⟩, _, _, rfl, ⟨m, rfl⟩, rfl⟩ := ofD_strct h
    exact ⟨⟨a, b, c, d, e, f, k, m⟩, rfl, leL_refl _⟩
  case recd =>
    obtain ⟨_, _, rfl, ⟨a, rfl⟩, _, _, rfl, ⟨b, rfl⟩, _, _, rfl, ⟨c, rfl⟩, _, _, rfl, ⟨d, rfl⟩, _, _, rfl, ⟨e, rfl⟩, _, _, rfl, ⟨f, rfl⟩, _, _, rfl, ⟨k, rfl⟩, _, _, rfl, ⟨m, rfl⟩, _, _, rfl, ⟨n, rfl⟩, _, _, rfl, ⟨o, rfl⟩, _, _, rfl, ⟨p, rfl⟩, _, _, rfl, ⟨q, rfl⟩, rfl⟩ := ofD_strct h
    exact ⟨⟨a, b, c, d, e, f, k, m, n, o, p, q⟩, rfl, leL_refl _⟩

/-! ### what is read is what lies there -/
theorem mapO_get {α β : Type} {f : α → Option β} : ∀ {l : List α} {r : List β}, mapO f l = some r → r.length = l.length ∧ ∀ (i : Nat) (x : α), l[i]? = some x → ∃ y, f x = some y ∧ r[i]? = some y
  | [], r, h => by cases h; exact ⟨rfl, fun i x hx => by simp at hx⟩
  | x :: l, r, h => by
    simp only [mapO] at h
    split at h <;> cases h
    rename_i y r hy hr
    obtain ⟨h1, h2⟩ := mapO_get hr
    refine ⟨by simp [h1], fun i z hz => ?_⟩
    cases i with
    | zero => simp at hz; subst hz; exact ⟨y, hy, rfl⟩
    | succ i => obtain ⟨q, a, b⟩ := h2 i z (by simpa using hz); exact ⟨q, a, by simpa using b⟩
theorem mapO_some {α β : Type} {f : α → Option β} : ∀ {l : List α}, (∀ x ∈ l, ∃ y, f x = some y) → ∃ r, mapO f l = some r
  | [], _ => ⟨[], rfl⟩
  | x :: l, h => by
    obtain ⟨y, hy⟩ := h x (by simp)
    obtain ⟨r, hr⟩ := mapO_some (l := l) fun z hz => h z (List.mem_cons_of_mem _ hz)
    exact ⟨y :: r, by simp [mapO, hy, hr]⟩

theorem take_add_drop {α : Type} (cs : List α) (o k : Nat) : (cs.drop o) = (cs.drop o).take k ++ cs.drop (o + k) := by
  rw [← List.drop_drop]; exact (List.take_append_drop k _).symm

theorem open_fields {n m : Nat} (hro : ∀ b, b < w.heap.size → g.role b = .ro) {cs : List Value}
    (ih : ∀ (t : TypeId) (sh : Sh) (cs : List Value) (d : DataW H) (ps : List MemPlace), shOk P n t sh = true → DataW.trod enc P w base sp held m t cs = some (d, ps) → ∃ pcs, ofD n sh d = some pcs ∧ RelL g w pcs cs) :
    ∀ (o : Nat) (fs : List Field) (shs : List Sh) (xs : List (DataW H × List MemPlace)) (e : Nat), fieldsOk P (shOk P n) o fs shs = some e → e = cs.length →
      fs.mapM (fun f => DataW.trod enc P w base sp held m f.type ((cs.drop f.offset).take (P.cellsOf f.type))) = some xs → ∃ pcs, zipO (ofD n) shs (xs.map (·.1)) = some pcs ∧ RelL g w pcs (cs.drop o)
  | o, [], [], xs, e, h, he, hx => by
    simp at hx; subst hx
    simp only [fieldsOk, Option.some.injEq] at h
    refine ⟨[], rfl, ?_⟩
    rw [List.drop_of_length_le (by omega)]
    exact relL_nil
  | o, f :: fs, s :: shs, xs, e, h, he, hx => by
    simp only [fieldsOk] at h
    split at h <;> (try (cases h; done))
    rename_i h1 h2
    obtain rfl := Nat.eq_of_beq_eq_true h1
    simp only [List.mapM_cons, Option.pure_def, Option.bind_eq_bind] at hx
    obtain ⟨y, hy, hx⟩ := Option.bind_eq_some_iff.1 hx
    obtain ⟨ys, hys, hx⟩ := Option.bind_eq_some_iff.1 hx
    cases hx
    obtain ⟨d, ps⟩ := y
    obtain ⟨p1, a1, b1⟩ := ih _ _ _ _ _ h2 hy
    obtain ⟨p2, a2, b2⟩ := open_fields hro ih _ fs shs ys e h he hys
    refine ⟨p1 ++ p2, by simp [zipO, a1, a2], ?_⟩
    rw [take_add_drop cs f.offset (P.cellsOf f.type)]
    exact relL_append b1 b2
  | o, [], _ :: _, xs, e, h, he, hx => by cases h
  | o, _ :: _, [], xs, e, h, he, hx => by cases h

theorem relL_one {p : PVal} {v : Value} (h : RelV g w p v) : RelL g w [p] [v] := relL_cons h relL_nil

theorem trod_slice_some {m : Nat} {t e : TypeId} {a : Addr} {len cap : Nat} {d : DataW H} {ps : List MemPlace} (he : P.underlying t = some (.slice e)) (h : DataW.trod enc P w base sp held (m + 1) t [.slice (some a) len cap] = some (d, ps)) :
    len ≤ cap ∧ ∃ elems rest, d = .slice (elems.map (·.1)) rest ∧ (List.range len).mapM (fun i => (w.cells? base (a.add (i * P.cellsOf e)) (P.cellsOf e)).bind (DataW.trod enc P w base sp held m e)) = some elems := by
  unfold DataW.trod at h
  simp only [he] at h
  split at h
  · rename_i hc
    obtain ⟨elems, h1, h2⟩ := Option.bind_eq_some_iff.1 h
    obtain ⟨rest, h3, h4⟩ := Option.map_eq_some_iff.1 h2
    cases h4
    exact ⟨hc.2.1, elems, _, rfl, h1⟩
  · cases h

theorem leL_get {xs ys : List PVal} (h : LeL xs ys) {j : Nat} {a : PVal} (ha : xs[j]? = some a) : ∃ b, ys[j]? = some b ∧ LeV a b := by
  have hj : j < ys.length := by rw [← h.1]; exact (List.getElem?_eq_some_iff.1 ha).1
  exact ⟨ys[j], List.getElem?_eq_getElem hj, h.2 j a _ ha (List.getElem?_eq_getElem hj)⟩

theorem open_slice {n m len cap : Nat} {t e : TypeId} {u : U} {a : Addr} {d : DataW H} {ps : List MemPlace} (hro : ∀ b, b < w.heap.size → g.role b = .ro) (he : P.underlying t = some (.slice e)) (hsz : P.cellsOf e = u.size)
    (ih : ∀ (cs : List Value) (d : DataW H) (ps : List MemPlace), DataW.trod enc P w base sp held m e cs = some (d, ps) → ∃ pcs, ofD n u.sh d = some pcs ∧ RelL g w pcs cs)
    (ht : DataW.trod enc P w base sp held (m + 1) t [.slice (some a) len cap] = some (d, ps)) : ∃ pcs, ofD (n + 1) (.slice u) d = some pcs ∧ RelL g w pcs [.slice (some a) len cap] := by
  obtain ⟨hlc, elems, rest, rfl, hm⟩ := trod_slice_some he ht
  have hlen : elems.length = len := by simpa using mapM_some_length hm
  have hget : ∀ i, i < len → ∃ cs d ps, w.cells? base (a.add (i * u.size)) u.size = some cs ∧ DataW.trod enc P w base sp held m e cs = some (d, ps) ∧ elems[i]? = some (d, ps) := by
    intro i hi
    have h1 := mapM_some_get hm i i (by simp [hi])
    obtain ⟨x, hx⟩ : ∃ x, elems[i]? = some x := ⟨elems[i], List.getElem?_eq_getElem (by omega)⟩
    rw [hx] at h1
    obtain ⟨cs, h2, h3⟩ := Option.bind_eq_some_iff.1 h1
    rw [hsz] at h2
    exact ⟨cs, x.1, x.2, h2, h3, hx⟩
  have hdec : ∀ x ∈ elems, ∃ y, bindO (ofD n u.sh x.1) u.dec = some y := by
    intro x hx
    obtain ⟨i, hi, rfl⟩ := List.getElem_of_mem hx
    obtain ⟨cs, d, ps, h1, h2, h3⟩ := hget i (by omega)
    have h4 : elems[i] = (d, ps) := by rw [List.getElem?_eq_getElem hi] at h3; exact Option.some.inj h3
    obtain ⟨pcs, a1, -⟩ := ih _ _ _ h2
    obtain ⟨y, hy, -⟩ := dec_of a1
    refine ⟨y, ?_⟩
    show bindO (ofD n u.sh (elems[i]).1) u.dec = some y
    rw [h4, a1]; exact hy
  obtain ⟨l, hl⟩ := mapO_some (f := fun d => bindO (ofD n u.sh d) u.dec) (l := elems.map (·.1)) (by simpa using fun x y hx => hdec (x, y) hx)
  obtain ⟨hll, hlg⟩ := mapO_get hl
  refine ⟨[.slice u false l], by simp [ofD, hl], relL_one ?_⟩
  have hll : l.length = len := by rw [hll]; simpa using hlen
  by_cases h0 : len = 0
  · subst h0
    have : l = [] := List.eq_nil_of_length_eq_zero hll
    subst this
    exact .slemp _ _ _ _ (by simp)
  · have hsp : a.spot = none := by
      obtain ⟨cs, d, ps, h1, -, -⟩ := hget 0 (by omega)
      obtain ⟨-, h2, h3⟩ := World.cells?_some h1
      have h4 := h3 0 u.size_pos
      have hp0 : 0 < cs.length := by rw [h2]; exact u.size_pos
      have : cs[0]? = some cs[0] := List.getElem?_eq_getElem hp0
      rw [this] at h4
      have := World.cell?_spot h4
      simpa [Addr.add] using this
    obtain ⟨blk, off, spot⟩ := a
    simp only at hsp
    subst hsp
    -- an element's cells
    have hel : ∀ i, i < len → ∀ j, j < u.size → ∃ v, w.cell? ⟨blk, off + (i * u.size + j), none⟩ = some v ∧ ∀ (x : u.D) (pv : PVal), l[i]? = some x → (u.cells x)[j]? = some pv → RelV g w pv v := by
      intro i hi j hj
      obtain ⟨cs, d, ps, h1, h2, h3⟩ := hget i hi
      obtain ⟨-, h4, h5⟩ := World.cells?_some h1
      have h6 := h5 j hj
      rw [Go.WideShapes.add_plain, Go.WideShapes.add_plain, Nat.add_assoc, List.getElem?_eq_getElem (by omega)] at h6
      refine ⟨_, h6, fun x pv hx hp => ?_⟩
      obtain ⟨pcs, b1, b2⟩ := ih _ _ _ h2
      obtain ⟨y, c1, c2⟩ := dec_of b1
      obtain ⟨z, d1, d2⟩ := hlg i d (by simp [h3])
      rw [b1] at d1
      simp only [bindO] at d1
      rw [c1] at d1
      cases d1
      rw [hx] at d2
      cases d2
      obtain ⟨q, e1, e2⟩ := leL_get c2 hp
      obtain ⟨v, f1, f2⟩ := b2.2 j q e1
      have : v = cs[j] := by
        rw [List.getElem?_eq_getElem (by omega)] at f1
        exact (Option.some.inj f1).symm
      subst this
      exact f2.le e2
    have hblk : g.role blk = .ro := by
      obtain ⟨v, hv, -⟩ := hel 0 (by omega) 0 u.size_pos
      refine hro blk ?_
      unfold World.cell? at hv
      split at hv
      · rename_i hb; exact (Array.getElem?_eq_some_iff.1 hb).1
      · cases hv
    rw [← hll]
    refine .slice u false l blk off cap (fun j => (w.cell? ⟨blk, off + j, none⟩).getD Go.undef) (by omega) (by simp) hblk (fun j hj => ?_) (fun i x hx j pv hp => ?_)
    · have hj' : j < u.size * len := by rw [Nat.mul_comm, ← hll]; exact hj
      obtain ⟨v, hv, -⟩ := hel (j / u.size) (Nat.div_lt_of_lt_mul hj') (j % u.size) (Nat.mod_lt _ u.size_pos)
      have : j / u.size * u.size + j % u.size = j := by rw [Nat.mul_comm]; exact Nat.div_add_mod j u.size
      rw [this] at hv
      rw [hv]; rfl
    · have hi : i < len := by rw [← hll]; exact (List.getElem?_eq_some_iff.1 hx).1
      have hj : j < u.size := by rw [← U.size_cells u x]; exact (List.getElem?_eq_some_iff.1 hp).1
      obtain ⟨v, hv, hr⟩ := hel i hi j hj
      rw [hv]
      exact hr x pv hx hp

theorem open_rel (hro : ∀ b, b < w.heap.size → g.role b = .ro) : ∀ (n m : Nat) (t : TypeId) (sh : Sh) (cs : List Value) (d : DataW H) (ps : List MemPlace), shOk P n t sh = true →
    DataW.trod enc P w base sp held m t cs = some (d, ps) → ∃ pcs, ofD n sh d = some pcs ∧ RelL g w pcs cs
  | 0, _, _, _, _, _, _, h, _ => by cases h
  | n + 1, 0, _, _, _, _, _, _, h => by simp [DataW.trod] at h
  | n + 1, m + 1, t, sh, cs, d, ps, h, ht => by
    unfold shOk at h
    split at h
    · rename_i e
      unfold DataW.trod at ht
      rw [e] at ht
      split at ht <;> simp_all
      obtain ⟨rfl, -⟩ := ht
      exact ⟨_, rfl, relL_one (.bool _)⟩
    · rename_i k k' e
      obtain rfl := kindEq_iff h
      unfold DataW.trod at ht
      rw [e] at ht
      split at ht <;> simp_all
      obtain ⟨⟨rfl, -⟩, rfl, -⟩ := ht
      exact ⟨_, by simp [ofD, h], relL_one (.int _ _)⟩
    · rename_i e
      unfold DataW.trod at ht
      rw [e] at ht
      split at ht <;> simp_all
      obtain ⟨-, rfl, -⟩ := ht
      exact ⟨_, rfl, relL_one (.str _)⟩
    · rename_i u e he
      split at h <;> (try (cases h; done))
      rename_i hsz
      have hsz := Nat.eq_of_beq_eq_true hsz
      by_cases hnil : cs = [.slice none 0 0]
      · subst hnil
        unfold DataW.trod at ht
        simp only [he] at ht
        cases ht
        exact ⟨_, rfl, relL_one .nils⟩
      · have : ∃ a len cap, cs = [.slice (some a) len cap] := by
          unfold DataW.trod at ht
          rw [he] at ht
          split at ht <;> first | exact ⟨_, _, _, rfl⟩ | simp_all
        obtain ⟨a, len, cap, rfl⟩ := this
        exact open_slice hro he hsz (fun cs d ps => open_rel hro n m e u.sh cs d ps h) ht
    · rename_i shs fs e
      split at h <;> (try (cases h; done))
      rename_i o ho
      have hsz := Nat.eq_of_beq_eq_true h
      have : cs.length = P.cellsOf t ∧ ∃ xs, fs.toList.mapM (fun f => DataW.trod enc P w base sp held m f.type ((cs.drop f.offset).take (P.cellsOf f.type))) = some xs ∧ d = .agg (xs.map (·.1)) := by
        unfold DataW.trod at ht
        rw [e] at ht
        split at ht <;> simp_all
        obtain ⟨hl, xs, hx, rfl, -⟩ := ht
        exact ⟨xs, hx, rfl⟩
      obtain ⟨hl, xs, hx, rfl⟩ := this
      obtain ⟨pcs, a, b⟩ := open_fields hro (fun t sh cs d ps => open_rel hro n m t sh cs d ps) 0 _ shs xs o ho (by omega) hx
      exact ⟨pcs, a, by simpa using b⟩
    · cases h
end

end Go.Im

/-
  The rows' outer steps, once for all laws: from a function's spec to the row's contract.
-/
namespace Go.Im
open Go.ChangeShapes Go.RowKit

/-- at a call's beginning: whatever lies there no longer turns; no boxes -/
def entryGh (w : World) : Gh := ⟨fun b => match Nat.blt b w.heap.size with | true => .ro | false => .ex, fun _ => none⟩
theorem entry_ro {w : World} (b : Nat) (h : b < w.heap.size) : (entryGh w).role b = .ro := by
  have : Nat.blt b w.heap.size = true := by simpa [Nat.blt_eq] using h
  simp [entryGh, this]
theorem entry_inv (w : World) : Inv (entryGh w) w where
  dflt := fun blk h => by
    have : Nat.blt blk w.heap.size = false := by rw [Bool.eq_false_iff]; simp [Nat.blt_eq]; omega
    simp [entryGh, this]
  ex := fun b blk h => by cases h
  inj := fun b b' blk h => by cases h

section
variable {H : Type} {enc : TypeId × Value → H} {P : Program}

def isAgg : Sh → Bool
  | .strct _ => true
  | _ => false
/-- an argument out of its cells -/
def argV : Sh → List PVal → PVal
  | .strct _, cs => .agg cs
  | _, [x] => x
  | _, _ => .undef

theorem okWide_cell {w : World} {base : Nat} {t : TypeId} {v : Value} {n : Nat} {sh : Sh} (hs : shOk P n t sh = true) (ha : isAgg sh = false) (h : Value.okWide P w .any base t v) : v.cells.toList = [v] := by
  cases n with
  | zero => cases hs
  | succ n =>
    unfold shOk at hs
    have key : ∀ vs, v ≠ .agg vs := by
      rintro vs rfl
      split at hs
      · rename_i e; simp [Value.okWide, e, Cell.okWide, Cell.ok] at h
      · rename_i e; simp [Value.okWide, e, Cell.okWide, Cell.ok] at h
      · rename_i e; simp [Value.okWide, e, Cell.okWide, Cell.ok] at h
      · rename_i e; simp [Value.okWide, e, Cell.okWide, Cell.ok] at h
      · cases ha
      · cases hs
    cases v <;> first | rfl | exact absurd rfl (key _)

/-- the arguments' values -/
def argsOf (n : Nat) : List Sh → List (DataW H) → Option (List PVal)
  | [], [] => some []
  | s :: r, d :: l => match ofD n s d, argsOf n r l with | some x, some y => some (argV s x :: y) | _, _ => none
  | _, _ => none
def shsOk (P : Program) (n : Nat) : List TypeId → List Sh → Bool
  | [], [] => true
  | t :: ts, s :: r => match shOk P n t s with | true => shsOk P n ts r | false => false
  | _, _ => false

theorem open_arg {w : World} {base : Nat} {n : Nat} {t : TypeId} {sh : Sh} {v : Value} {d : DataW H} {ps : List MemPlace} (hs : shOk P n t sh = true) (hval : Value.okWide P w .any base t v)
    (h : DataW.Trod enc P w 0 (fun _ => true) true t v d ps) : ∃ pcs, ofD n sh d = some pcs ∧ RelV (entryGh w) w (argV sh pcs) v := by
  obtain ⟨m, hm⟩ := h
  obtain ⟨pcs, a, b⟩ := open_rel (g := entryGh w) entry_ro n m t sh _ d ps hs hm
  refine ⟨pcs, a, ?_⟩
  cases ha : isAgg sh with
  | false =>
    rw [okWide_cell hs ha hval] at b
    obtain ⟨hl, hr⟩ := b
    obtain ⟨p, rfl⟩ : ∃ p, pcs = [p] := by
      cases pcs with
      | nil => simp at hl
      | cons p r => cases r with
        | nil => exact ⟨p, rfl⟩
        | cons _ _ => simp at hl
    have : argV sh [p] = p := by cases sh <;> first | rfl | cases ha
    rw [this]
    obtain ⟨v', h1, h2⟩ := hr 0 p rfl
    simp at h1; subst h1; exact h2
  | true =>
    have : ∃ cs, v = .agg cs := by
      cases n with
      | zero => cases hs
      | succ n =>
        unfold shOk at hs
        split at hs <;> (try (cases ha; done)) <;> (try (cases hs; done))
        rename_i e
        simp only [Value.okWide, e] at hval
        obtain ⟨cs, h, -⟩ := hval
        exact ⟨cs, h⟩
    obtain ⟨cs, rfl⟩ := this
    have e : argV sh pcs = .agg pcs := by cases sh <;> first | rfl | cases ha
    rw [e]
    simpa [Value.cells] using relV_agg_of b

theorem open_args {w : World} {base : Nat} {n : Nat} : ∀ {ts : List TypeId} {shs : List Sh} {vs : List Value} {ds : List (DataW H)} {ps : List MemPlace}, shsOk P n ts shs = true →
    (∀ (j : Nat) t v, ts[j]? = some t → vs[j]? = some v → Value.okWide P w .any base t v) → DataW.TrodAll enc P w 0 (fun _ => true) true ts vs ds ps →
    ∃ args, argsOf n shs ds = some args ∧ RelL (entryGh w) w args vs
  | [], [], vs, ds, ps, _, _, h => by
    obtain ⟨rfl, rfl, rfl⟩ := trodAll_nil h
    exact ⟨[], rfl, relL_nil⟩
  | t :: ts, s :: r, vs, ds, ps, hs, hval, h => by
    obtain ⟨v, vs', d, ds', p, q, rfl, rfl, rfl, h1, h2⟩ := trodAll_cons h
    simp only [shsOk] at hs
    split at hs <;> (try (cases hs; done))
    rename_i hs1
    obtain ⟨pcs, a, b⟩ := open_arg hs1 (hval 0 t v rfl rfl) h1
    obtain ⟨args, c, e⟩ := open_args hs (fun j t v ht hv => hval (j + 1) t v (by simpa using ht) (by simpa using hv)) h2
    exact ⟨_, by simp [argsOf, a, c], relL_cons b e⟩
  | [], _ :: _, _, _, _, h, _, _ => by cases h
  | _ :: _, [], _, _, _, h, _, _ => by cases h

/-! ### behind the call -/
theorem Ext.below {w w' : World} {g' : Gh} (h : Ext (entryGh w) w g' w') : Below w.heap.size w w' :=
  ⟨h.os, h.tape, h.output, h.size, fun k hk => h.keep k hk fun b hb => by cases hb⟩

theorem trodAll_stays (hl : laidOutB P = true) {W W' : World} (hb : Below W.heap.size W W') {sp : Nat → Bool} : ∀ {ts : List TypeId} {vs : List Value} {ds : List (DataW H)} {ps : List MemPlace},
    (∀ t ∈ ts, P.readableRec t = true ∧ t < P.types.size) → DataW.TrodAll enc P W 0 (fun _ => true) true ts vs ds ps → (∀ x ∈ ps, x.block < W.heap.size) → (∀ x ∈ ps, sp x.block = true) → DataW.TrodAll enc P W' 0 sp true ts vs ds ps
  | [], vs, ds, ps, _, h, _, _ => by
    obtain ⟨rfl, rfl, rfl⟩ := trodAll_nil h
    exact trodAll_mk0
  | t :: ts, vs, ds, ps, ht, h, hlt, hsp => by
    obtain ⟨v, vs', d, ds', p, q, rfl, rfl, rfl, h1, h2⟩ := trodAll_cons h
    refine trodAll_cons_mk (WideElems.Trod_stays hl (ht t (by simp)).1 (ht t (by simp)).2 h1 (fun x hx => hb.same (hlt x (by simp [hx]))) (fun x hx => hsp x (by simp [hx]))) ?_
    exact trodAll_stays hl hb (fun t h => ht t (by simp [h])) h2 (fun x hx => hlt x (by simp [hx])) (fun x hx => hsp x (by simp [hx]))

theorem post_of_below {f : Func} {s : ChangeSpec} {fresh handsOn again : Bool} {W W' : World} {args : Array Value} {v : Value} {ds gs : List (DataW H)} {before : List MemPlace}
    (hl : laidOutB P = true) (ht : ∀ t ∈ f.params.toList, P.readableRec t = true ∧ t < P.types.size) (hvars : s.vars = [])
    (hW : DataW.Whole enc P f.params.toList s.vars false W args.toList ds gs before) (hb : Below W.heap.size W W')
    (hres : ∀ (b : Nat) (sp : Nat → Bool) (hd : Bool), DataW.TrodAll enc P W' b sp hd f.resultTypes.toList (v.resultList f.resultTypes.size) (s.fn H (ds ++ gs)).results [])
    (hfn : (s.fn H (ds ++ gs)).args = ds) (hfv : (s.fn H (ds ++ gs)).vars = [])
    (hok : ∀ (j : Nat) (t : TypeId) (r : Value), f.resultTypes[j]? = some t → (v.resultList f.resultTypes.size)[j]? = some r → Value.okWide P W' .any 0 t r) :
    s.post enc P f false fresh handsOn again W args v W' := by
  have hlt : ∀ x ∈ before, x.block < W.heap.size := fun x hx => by simpa using hW.lt x hx
  have hold : ∀ p ∈ before, (fun b => decide (b < W.heap.size)) p.block = true := fun p hp => by simpa using hlt p hp
  have hW2 := hW
  obtain ⟨p, q, hA, hV, rfl, hfz, -⟩ := hW2
  rw [hvars] at hV
  obtain ⟨rfl, rfl⟩ := trodVars_none hV
  simp only [List.append_nil] at hlt hold hW hres hfn hfv hfz
  have hargs : ∀ sp : Nat → Bool, (∀ x ∈ p, sp x.block = true) → DataW.TrodAll enc P W' 0 sp true f.params.toList args.toList (s.fn H ds).args p := fun sp hsp => by
    rw [hfn]; exact trodAll_stays hl hb ht hA hlt hsp
  have hvs : ∀ sp : Nat → Bool, DataW.TrodVars enc P W' sp s.vars (s.fn H ds).vars [] := fun sp => by rw [hvars, hfv]; rfl
  refine ⟨ds, [], p, [], p, [], hW, by simpa using hres _ _ _, by simpa using hargs _ hold, by simpa using hvs _, World.keptBut_mono (fun x hx => ⟨hx, ?_⟩) (hb.frame (· ∈ p)), fun _ => ?_⟩
  · exact Or.inr (by simpa using hx)
  · refine ⟨hok, _, _, ([] ++ p) ++ [], ⟨[] ++ p, [], trodAll_append (by simpa using hargs _ (fun _ _ => rfl)) (by simpa using hres _ _ _), by simpa using hvs _, rfl, ?_, fun h => by cases h⟩, ?_⟩
    · intro b off hp
      have hp' : MemPlace.cell b off ∈ p := by simpa using hp
      rw [hb.frozen (p := ⟨b, off, none⟩) (hlt _ hp')]
      exact hfz b off hp'
    · intro x hx _
      simpa using hx

/-- a law's contract: its function, called at what its spec speaks of, answers true -/
theorem contract_of {f : FuncId} {fn : Func} {S : FSpec} {s : ChangeSpec} {tb : TypeId} {n : Nat} {shs : List Sh} (hS : SoundF P f S) (hl : laidOutB P = true) (ht : ∀ t ∈ fn.params.toList, P.readableRec t = true ∧ t < P.types.size) (hvars : s.vars = [])
    (hrt : fn.resultTypes = #[tb]) (htb : P.underlying tb = some .bool) (hsh : shsOk P n fn.params.toList shs = true)
    {W : World} {base : Nat} {args : Array Value} {ds gs : List (DataW H)} {before : List MemPlace}
    (hval : ∀ (j : Nat) t v, fn.params[j]? = some t → args[j]? = some v → Value.okWide P W .any base t v)
    (hW : DataW.Whole enc P fn.params.toList s.vars false W args.toList ds gs before)
    (hfn : ∀ pargs, argsOf n shs ds = some pargs → S pargs [] = some (true, .bool true, []) ∧ s.fn H ds = { results := [.lit (.bool true)], args := ds }) :
    Calls P f args W fun e W' => ∃ v, e = .returned v ∧ s.post enc P fn false true false false W args v W' := by
  have hW2 := hW
  obtain ⟨p, q, hA, hV, -, -, -⟩ := hW2
  rw [hvars] at hV
  obtain ⟨rfl, -⟩ := trodVars_none hV
  obtain ⟨pargs, ha, hr⟩ := open_args hsh (fun j t v h1 h2 => hval j t v (by simpa using h1) (by simpa using h2)) hA
  obtain ⟨h1, h2⟩ := hfn pargs ha
  refine (hS pargs [] (.bool true) [] h1 (entryGh W) W args (entry_inv W) (fun _ _ => rfl) ⟨fun b cs hb => by simp at hb⟩ hr).mono fun e W' hp => ?_
  obtain ⟨rv, g', rfl, hx, -, -, hv, -, -⟩ := hp
  cases hv
  refine ⟨_, rfl, post_of_below hl ht hvars hW hx.below (fun b sp hd => ?_) (by simp [h2]) (by simp [h2]) (ok_one hrt rfl (okWide_bool_mk htb _))⟩
  rw [hrt]
  simp only [List.append_nil, h2]
  exact trodAll_cons_mk (shut_bool htb _) trodAll_mk0
end
end Go.Im

/-
  What the bound of an 'Upto' statement gives: no slice that is read is longer.
-/
namespace Go.Im
open Go.Proofs.Ytanjpdkglocjpaa

theorem bulk_mem {H : Type} {d : DataW H} {l : List (DataW H)} (h : d ∈ l) : Rows.uptoBulk d ≤ Rows.uptoBulkAll l := by
  induction l with
  | nil => cases h
  | cons x r ih =>
    simp only [Rows.uptoBulkAll]
    cases List.mem_cons.1 h with
    | inl e => subst e; omega
    | inr e => have := ih e; omega
theorem bulk_one {H : Type} (d : DataW H) : 1 ≤ Rows.uptoBulk d := by
  cases d with
  | lit l => cases l <;> simp [Rows.uptoBulk]
  | _ => simp [Rows.uptoBulk]
theorem bulk_length {H : Type} (l : List (DataW H)) : l.length ≤ Rows.uptoBulkAll l := by
  induction l with
  | nil => simp
  | cons x r ih => have := bulk_one x; simp only [Rows.uptoBulkAll, List.length_cons]; omega

def shortV (m : Nat) : PVal → Prop
  | .slice _ _ l => l.length ≤ m
  | _ => True
theorem shortV_mono {m m' : Nat} (h : m ≤ m') {p : PVal} (k : shortV m p) : shortV m' p := by
  cases p <;> simp_all [shortV]; omega

theorem zipO_short {H : Type} {f : Sh → DataW H → Option (List PVal)} (hf : ∀ sh d pcs, f sh d = some pcs → ∀ p ∈ pcs, shortV (Rows.uptoBulk d) p) : ∀ (shs : List Sh) (ds : List (DataW H)) (pcs : List PVal), zipO f shs ds = some pcs → ∀ p ∈ pcs, shortV (Rows.uptoBulkAll ds) p
  | [], ds, pcs, h => by rw [zipO_nil h]; simp
  | s :: r, ds, pcs, h => by
    obtain ⟨d, l, x, y, rfl, h1, h2, rfl⟩ := zipO_cons h
    intro p hp
    simp only [Rows.uptoBulkAll]
    rcases List.mem_append.1 hp with hp | hp
    · exact shortV_mono (by omega) (hf _ _ _ h1 p hp)
    · exact shortV_mono (by omega) (zipO_short hf r l y h2 p hp)
theorem ofD_short {H : Type} : ∀ (n : Nat) (sh : Sh) (d : DataW H) (pcs : List PVal), ofD n sh d = some pcs → ∀ p ∈ pcs, shortV (Rows.uptoBulk d) p
  | 0, _, _, _, h => by cases h
  | n + 1, sh, d, pcs, h => by
    unfold ofD at h
    split at h
    · cases h; simp [shortV]
    · split at h <;> cases h; simp [shortV]
    · cases h; simp [shortV]
    · cases h; simp [shortV]
    · rename_i es sp
      split at h <;> cases h
      rename_i l hl
      have := (mapO_get hl).1
      have := bulk_length es
      intro p hp
      simp at hp; subst hp
      simp only [shortV, Rows.uptoBulk]
      omega
    · rename_i shs ds
      intro p hp
      simp only [Rows.uptoBulk]
      exact shortV_mono (by omega) (zipO_short (ofD_short n) shs ds pcs h p hp)
    · cases h

theorem argsOf_cons {H : Type} {n : Nat} {s : Sh} {r : List Sh} {ds : List (DataW H)} {pargs : List PVal} (h : argsOf n (s :: r) ds = some pargs) : ∃ d l pcs ps, ds = d :: l ∧ ofD n s d = some pcs ∧ argsOf n r l = some ps ∧ pargs = argV s pcs :: ps := by
  cases ds with
  | nil => cases h
  | cons d l =>
    simp only [argsOf] at h
    split at h <;> cases h
    exact ⟨d, l, _, _, rfl, ‹_›, ‹_›, rfl⟩
theorem argsOf_nil {H : Type} {n : Nat} {ds : List (DataW H)} {pargs : List PVal} (h : argsOf n [] ds = some pargs) : ds = [] ∧ pargs = [] := by
  cases ds with
  | nil => cases h; exact ⟨rfl, rfl⟩
  | cons _ _ => cases h
theorem upto_bound {H : Type} {l : List (DataW H)} (hk : Rows.uptoSmall H l = true) : Rows.uptoBulkAll l ≤ 1048576 := by
  simpa [Rows.uptoSmall] using hk
end Go.Im
