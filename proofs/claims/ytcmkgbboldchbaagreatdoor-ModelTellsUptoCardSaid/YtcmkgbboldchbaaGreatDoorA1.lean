import Derived.WalkKit
import Derived.Orders
import Derived.Deep.LoopGhost
import Derived.ChangeKeysEq
set_option linter.unusedSimpArgs false
set_option linter.unusedVariables false
/- Abstract values and states over the model: what a Go value or a block of memory is, told as plain data. -/
namespace Go.Pi

/-- What a cell holds, if it may be written. -/
def _root_.Go.World.kell (w : World) (a : Addr) : Option Value := if w.frozen? a then none else w.cell? a
theorem kell_cell {w : World} {a : Addr} {v : Value} (h : w.kell a = some v) : w.cell? a = some v := by
  unfold World.kell at h; split at h
  · cases h
  · exact h
theorem kell_free {w : World} {a : Addr} {v : Value} (h : w.kell a = some v) : w.frozen? a = false := by
  unfold World.kell at h; split at h
  · cases h
  · rename_i e; simpa using e
theorem kell_of {w : World} {a : Addr} {v : Value} (h : w.cell? a = some v) (hf : w.frozen? a = false) : w.kell a = some v := by
  unfold World.kell; rw [if_neg (by simp [hf])]; exact h
theorem kell_cells {w : World} {b o : Nat} {cs : Array Value} {t : TypeId} (h : w.heap[b]? = some (.cells cs t (0, 0))) : w.kell ⟨b, o, none⟩ = cs[o]? := by
  simp [World.kell, World.cell?, World.frozen?, h]

/-- An abstract value: a slice is the list of its elements, a pointer into a block of the state is the block's number and a place. -/
inductive PV where
  | v (x : Value)
  | ptr (id off : Nat)
  | slc (own : Bool) (xs : List PV)
  | ept (cs : List PV) (off : Nat)
  | hsl (id off len cap : Nat)
  | map (id : Nat)
  | clo (fn : Nat) (cap : List PV)
  | ifc (t : Nat) (x : PV)
  | agg (cs : List PV)
  | tup (cs : List PV)
  | yld (id : Nat)
  | fb (k : Nat)
  | junk
  deriving Inhabited

def PV.cells : PV → List PV
  | .agg cs => cs
  | x => [x]

def PV.strip : PV → PV
  | .slc o xs => .slc (o && xs.isEmpty) xs
  | .fb _ => .junk
  | x => x

/-- A value of one cell (and known). -/
def PV.one : PV → Bool
  | .agg _ | .tup _ | .junk | .fb _ | .yld _ => false
  | _ => true

/-- A machine value of one cell that holds no address. -/
def plainV : Value → Bool
  | .bool _ | .int _ _ | .float _ _ | .complex _ _ _ | .string _ | .pointer none | .map none | .chan none | .nilFunc | .nilIface => true
  | _ => false

/-- A block of the abstract state. -/
inductive PObj where
  | cells (cs : List PV)
  | map (clock : Nat) (es : List (PV × PV × Nat))
  | miter (m : Option Nat) (since : Nat) (seen : List Nat) (last : Nat)
  | raw (o : Obj)
  | dead
  deriving Inhabited

/-- 'v' is what 'p' says, in world w; bl: the blocks of the state's objects; π: the cells that stay as they are. -/
inductive VRel (w : World) (bl : List Nat) (π : Nat → Nat → Prop) : PV → Value → Prop
  | junk (v : Value) : VRel w bl π .junk v
  | fb (k : Nat) (v : Value) : VRel w bl π (.fb k) v
  | yld {id b : Nat} (h : bl[id]? = some b) : VRel w bl π (.yld id) (.func (.yield b) #[] #[])
  | v {x : Value} (h : plainV x = true) : VRel w bl π (.v x) x
  | ptr {id off b : Nat} (h : bl[id]? = some b) : VRel w bl π (.ptr id off) (.pointer (some ⟨b, off, none⟩))
  | map {id b : Nat} (h : bl[id]? = some b) : VRel w bl π (.map id) (.map (some b))
  | hsl {id off len cap b : Nat} (h : bl[id]? = some b) : VRel w bl π (.hsl id off len cap) (.slice (some ⟨b, off, none⟩) len cap)
  | slc0 {o : Bool} {a : Option Addr} {cap : Nat} (h : o = true → cap = 0) : VRel w bl π (.slc o []) (.slice a 0 cap)
  | slc {o : Bool} {xs : List PV} {b off cap k : Nat} (cv : Nat → Nat → Value) (hne : xs ≠ []) (hcap : xs.length ≤ cap) (hk : ∀ x ∈ xs, x.cells.length = k)
      (hc : ∀ j c, j < xs.length → c < k → π b (off + j * k + c) ∧ w.kell ⟨b, off + j * k + c, none⟩ = some (cv j c))
      (hr : ∀ (j c : Nat) (x z : PV), xs[j]? = some x → x.cells[c]? = some z → VRel w bl π z (cv j c)) :
      VRel w bl π (.slc o xs) (.slice (some ⟨b, off, none⟩) xs.length cap)
  | ept {cs : List PV} {off b base : Nat} (cv : Nat → Value)
      (hc : ∀ c, c < cs.length → π b (base + c) ∧ w.kell ⟨b, base + c, none⟩ = some (cv c))
      (hr : ∀ (c : Nat) (z : PV), cs[c]? = some z → VRel w bl π z (cv c)) : VRel w bl π (.ept cs off) (.pointer (some ⟨b, base + off, none⟩))
  | clo {fn : Nat} {cs : List PV} {vs : Array Value} (hl : vs.size = cs.length) (hr : ∀ (i : Nat) (z : PV) (u : Value), cs[i]? = some z → vs[i]? = some u → VRel w bl π z u) :
      VRel w bl π (.clo fn cs) (.func (.func fn) #[] vs)
  | ifc {t : Nat} {x : PV} {u : Value} (h : VRel w bl π x u) : VRel w bl π (.ifc t x) (.iface t u)
  | agg {cs : List PV} {vs : Array Value} (hl : vs.size = cs.length) (hr : ∀ (i : Nat) (z : PV) (u : Value), cs[i]? = some z → vs[i]? = some u → VRel w bl π z u) :
      VRel w bl π (.agg cs) (.agg vs)
  | tup {cs : List PV} {vs : Array Value} (hl : vs.size = cs.length) (hr : ∀ (i : Nat) (z : PV) (u : Value), cs[i]? = some z → vs[i]? = some u → VRel w bl π z u) :
      VRel w bl π (.tup cs) (.tuple vs)

theorem VRel.mono {w w' : World} {bl bl' : List Nat} {π π' : Nat → Nat → Prop} {p : PV} {v : Value} (h : VRel w bl π p v)
    (hb : ∀ i b : Nat, bl[i]? = some b → bl'[i]? = some b) (hπ : ∀ b o, π b o → π' b o)
    (hc : ∀ b o, π b o → w'.kell ⟨b, o, none⟩ = w.kell ⟨b, o, none⟩) : VRel w' bl' π' p v := by
  induction h with
  | junk v => exact .junk v
  | fb k v => exact .fb k v
  | yld h => exact .yld (hb _ _ h)
  | v h => exact .v h
  | ptr h => exact .ptr (hb _ _ h)
  | map h => exact .map (hb _ _ h)
  | hsl h => exact .hsl (hb _ _ h)
  | slc0 h => exact .slc0 h
  | slc cv hne hcap hk hc' hr ih =>
    exact .slc cv hne hcap hk (fun j c hj hcc => ⟨hπ _ _ (hc' j c hj hcc).1, (hc _ _ (hc' j c hj hcc).1).trans (hc' j c hj hcc).2⟩) (fun j c x z hx hz => ih j c x z hx hz)
  | ept cv hc' hr ih =>
    exact .ept cv (fun c hcc => ⟨hπ _ _ (hc' c hcc).1, (hc _ _ (hc' c hcc).1).trans (hc' c hcc).2⟩) (fun c z hz => ih c z hz)
  | clo hl hr ih => exact .clo hl ih
  | ifc h ih => exact .ifc ih
  | agg hl hr ih => exact .agg hl ih
  | tup hl hr ih => exact .tup hl ih

theorem VRel.strip {w : World} {bl : List Nat} {π : Nat → Nat → Prop} {p : PV} {v : Value} (h : VRel w bl π p v) : VRel w bl π p.strip v := by
  cases h with
  | slc0 h => exact .slc0 (by simpa using h)
  | slc cv hne hcap hk hc hr => exact .slc cv hne hcap hk hc hr
  | junk v => exact .junk v
  | fb k v => exact .junk v
  | yld h => exact .yld h
  | v h => exact .v h
  | ptr h => exact .ptr h
  | map h => exact .map h
  | hsl h => exact .hsl h
  | ept cv hc hr => exact .ept cv hc hr
  | clo hl hr => exact .clo hl hr
  | ifc h => exact .ifc h
  | agg hl hr => exact .agg hl hr
  | tup hl hr => exact .tup hl hr

theorem VRel.one {w : World} {bl : List Nat} {π : Nat → Nat → Prop} {p : PV} {v : Value} (h : VRel w bl π p v) (ho : p.one = true) : v.oneCell' = true := by
  cases h <;> simp_all [PV.one, Value.oneCell']
  cases v <;> simp_all [plainV]

/-- The cells of a known value. -/
theorem VRel.cellsOf {w : World} {bl : List Nat} {π : Nat → Nat → Prop} {p : PV} {v : Value} (h : VRel w bl π p v) (hj : p.one = true ∨ ∃ cs, p = .agg cs) :
    v.cells.size = p.cells.length ∧ ∀ (i : Nat) (z : PV) (u : Value), p.cells[i]? = some z → v.cells[i]? = some u → VRel w bl π z u := by
  have single : ∀ {p : PV} {v : Value}, VRel w bl π p v → p.cells = [p] → v.cells = #[v] → v.cells.size = p.cells.length ∧ ∀ (i : Nat) (z : PV) (u : Value), p.cells[i]? = some z → v.cells[i]? = some u → VRel w bl π z u := by
    intro p v h h1 h2
    rw [h1, h2]
    refine ⟨rfl, ?_⟩
    intro i z u hz hu
    cases i with
    | zero => simp at hz hu; subst hz; subst hu; exact h
    | succ i => simp at hz
  cases h with
  | junk v => simp [PV.one] at hj
  | fb k v => simp [PV.one] at hj
  | yld h => simp [PV.one] at hj
  | v h => exact single (.v h) rfl (by cases v <;> simp_all [plainV, Value.cells])
  | ptr h => exact single (.ptr h) rfl rfl
  | map h => exact single (.map h) rfl rfl
  | hsl h => exact single (.hsl h) rfl rfl
  | slc0 h => exact single (.slc0 h) rfl rfl
  | slc cv hne hcap hk hc hr => exact single (.slc cv hne hcap hk hc hr) rfl rfl
  | ept cv hc hr => exact single (.ept cv hc hr) rfl rfl
  | clo hl hr => exact single (.clo hl hr) rfl rfl
  | ifc h => exact single (.ifc h) rfl rfl
  | agg hl hr => exact ⟨hl, hr⟩
  | tup hl hr => simp [PV.one] at hj

end Go.Pi
/- Abstract states: how they stand to the machine's frame and memory, and which steps of the machine keep that. -/
namespace Go.Pi
open Go.RowKit

/-- A place of a state: a slot of the frame, or a cell of an object. -/
inductive Loc where
  | t (n : Nat)
  | c (id off : Nat)
  deriving DecidableEq

def upd {α β : Type} [DecidableEq α] (f : α → β) (a : α) (b : β) : α → β := fun x => if x = a then b else f x

theorem upd_same {α β : Type} [DecidableEq α] (f : α → β) (a : α) (b : β) : upd f a b a = b := by simp [upd]
theorem upd_other {α β : Type} [DecidableEq α] (f : α → β) {a x : α} (b : β) (h : x ≠ a) : upd f a b x = f x := by simp [upd, h]

structure St where
  t : Nat → PV
  H : List PObj

/-- A call's begin. -/
structure Ent where
  w : World
  bl : List Nat
  π : Nat → Nat → Prop
  O : Nat → Prop
  H : List PObj
  n : Nat
  round : Option Nat
  Y : Nat → List PV → List PObj → (PV → List PObj → Prop) → Prop

def Live (bl : List Nat) (H : List PObj) (b : Nat) : Prop := ∃ (id : Nat) (o : PObj), bl[id]? = some b ∧ H[id]? = some o ∧ o ≠ .dead

/-- The slice at a place may be appended to: it ends where its array ends, or the array is this place's own. -/
def Own (w : World) (bl : List Nat) (π : Nat → Nat → Prop) (H : List PObj) (ob : Option Nat) (xs : List PV) (v : Value) : Prop :=
  ∃ a len cap, v = .slice a len cap ∧ (len = cap ∨ ∃ b off k, a = some ⟨b, off, none⟩ ∧ ob = some b ∧ ¬ Live bl H b ∧ xs ≠ [] ∧ (∀ x ∈ xs, x.cells.length = k) ∧
    (∃ cs t, w.heap[b]? = some (.cells cs t (0, 0)) ∧ off + cap * k ≤ cs.size) ∧ ∀ o, off + len * k ≤ o → ¬ π b o)

/-- A new variable that nothing else knows yet. -/
def Fresh (w : World) (bl : List Nat) (π : Nat → Nat → Prop) (H : List PObj) (ob : Option Nat) (k : Nat) (v : Value) : Prop :=
  ∃ b cs t, v = .pointer (some ⟨b, 0, none⟩) ∧ ob = some b ∧ ¬ Live bl H b ∧ w.heap[b]? = some (.cells cs t (0, 0)) ∧ cs.size = k ∧ ∀ o, ¬ π b o

def LRel (w : World) (bl : List Nat) (π : Nat → Nat → Prop) (H : List PObj) (ob : Option Nat) (p : PV) (v : Value) : Prop :=
  VRel w bl π p v ∧ (∀ xs, p = .slc true xs → xs ≠ [] → Own w bl π H ob xs v) ∧ ∀ k, p = .fb k → Fresh w bl π H ob k v

/-- What an iterator goes over. -/
def iterPV : Option Nat → PV
  | none => .v (.map none)
  | some id => .map id

/-- An object and its block. -/
def ORel (R : Nat → PV → Value → Prop) (S : PV → Value → Prop) (w : World) (b : Nat) : PObj → Prop
  | .cells pcs => ∃ cs t, w.heap[b]? = some (.cells cs t (0, 0)) ∧ cs.size = pcs.length ∧ ∀ (i : Nat) (z : PV) (u : Value), pcs[i]? = some z → cs[i]? = some u → R i z u
  | .map clock es => ∃ arr, w.heap[b]? = some (.map arr clock) ∧ arr.size = es.length ∧
      ∀ (i : Nat) (kv : PV × PV × Nat) (e : MapEntry), es[i]? = some kv → arr[i]? = some e → S kv.1 e.key ∧ S kv.2.1 e.val ∧ e.born = kv.2.2
  | .miter m since seen last => ∃ mb, w.heap[b]? = some (.mapIter mb since seen.toArray last) ∧ S (iterPV m) (.map mb)
  | .raw o => w.heap[b]? = some o
  | .dead => b < w.heap.size

structure Frame' (w : World) (bl : List Nat) (π : Nat → Nat → Prop) (O : Nat → Prop) (H : List PObj) (w' : World) (bl' : List Nat) (π' : Nat → Nat → Prop) (H' : List PObj) : Prop where
  os : w'.os = w.os
  tape : w'.tape = w.tape
  output : w'.output = w.output
  size : w.heap.size ≤ w'.heap.size
  pre : ∀ (i b : Nat), bl[i]? = some b → bl'[i]? = some b
  new : ∀ (i b : Nat), bl'[i]? = some b → bl.length ≤ i → w.heap.size ≤ b
  sub : ∀ b o, π b o → π' b o
  fresh : ∀ b o, π' b o → π b o ∨ w.heap.size ≤ b ∨ O b
  block : ∀ b, b < w.heap.size → ¬ Live bl H b → ¬ O b → w'.heap[b]? = w.heap[b]?
  dead : ∀ id : Nat, H[id]? = some .dead → H'[id]? = some .dead
  cell : ∀ b o, π b o → w'.kell ⟨b, o, none⟩ = w.kell ⟨b, o, none⟩

def mark (D : Nat) : Deferred := { target := .collected D, args := #[] }

/-- The blocks for the rounds' deferred calls. -/
def Marks (E : Ent) (bl : List Nat) (w : World) (ds : List Deferred) : Prop :=
  (E.round.isSome = true → ds = []) ∧ ∃ Ds : List Nat, ds = Ds.map mark ∧ Ds.Nodup ∧ ∀ D ∈ Ds, E.w.heap.size ≤ D ∧ D ∉ bl ∧ w.heap[D]? = some (.deferred (some []))

theorem Marks.nil {E : Ent} {bl : List Nat} {w : World} : Marks E bl w [] := ⟨fun _ => rfl, [], rfl, by simp, by simp⟩

theorem Marks.move {E : Ent} {bl bl' : List Nat} {w w' : World} {ds : List Deferred} (h : Marks E bl w ds) (hb : ∀ D ∈ bl', D ∈ bl ∨ w.heap.size ≤ D)
    (hw : ∀ D, D ∉ bl → w.heap[D]? = some (.deferred (some [])) → w'.heap[D]? = some (.deferred (some []))) : Marks E bl' w' ds := by
  obtain ⟨h0, Ds, h1, h2, h3⟩ := h
  refine ⟨h0, Ds, h1, h2, fun D hD => ?_⟩
  obtain ⟨g1, g2, g3⟩ := h3 D hD
  refine ⟨g1, fun hm => ?_, hw D g2 g3⟩
  rcases hb D hm with h | h
  · exact g2 h
  · have := (Array.getElem?_eq_some_iff.1 g3).1
    omega

structure Rel (E : Ent) (s : St) (bl : List Nat) (π : Nat → Nat → Prop) (om : Loc → Option Nat) (a : Act) (w : World) : Prop where
  dfr : Marks E bl w a.defers
  sz : a.tmps.size = E.n
  tm : ∀ t, LRel w bl π s.H (om (.t t)) (s.t t) (a.tmps.getD t undef)
  len : bl.length = s.H.length
  nd : bl.Nodup
  lt : ∀ b ∈ bl, b < w.heap.size
  ob : ∀ (id : Nat) (o : PObj) (b : Nat), s.H[id]? = some o → bl[id]? = some b →
    ORel (fun off => LRel w bl π s.H (om (.c id off))) (VRel w bl π) w b o
  pr : ∀ b o, π b o → ¬ Live bl s.H b ∧ b < w.heap.size
  inj : ∀ ℓ ℓ' b, om ℓ = some b → om ℓ' = some b → ℓ = ℓ'
  omw : ∀ ℓ b, om ℓ = some b → (∃ cs t, w.heap[b]? = some (.cells cs t (0, 0))) ∧ (E.w.heap.size ≤ b ∨ E.O b) ∧ ¬ Live bl s.H b
  omc : ∀ id off, s.H.length ≤ id → om (.c id off) = none
  fr : Frame' E.w E.bl E.π E.O E.H w bl π s.H
  el : E.bl.length = E.H.length

theorem Rel.omlt {E : Ent} {s : St} {bl : List Nat} {π : Nat → Nat → Prop} {om : Loc → Option Nat} {a : Act} {w : World} (h : Rel E s bl π om a w) (ℓ : Loc) (b : Nat) (hb : om ℓ = some b) : b < w.heap.size := by
  obtain ⟨⟨cs, t, h1⟩, _⟩ := h.omw ℓ b hb
  exact (Array.getElem?_eq_some_iff.1 h1).1

theorem cell_of_block {w w' : World} {b o : Nat} (h : w'.heap[b]? = w.heap[b]?) : w'.kell ⟨b, o, none⟩ = w.kell ⟨b, o, none⟩ := by
  simp [World.kell, World.cell?, World.frozen?, h]

theorem LRel.move {w w' : World} {bl bl' : List Nat} {π π' : Nat → Nat → Prop} {H H' : List PObj} {ob : Option Nat} {p : PV} {v : Value}
    (h : LRel w bl π H ob p v) (hb : ∀ i b : Nat, bl[i]? = some b → bl'[i]? = some b) (hπ : ∀ b o, π b o → π' b o)
    (hc : ∀ b o, π b o → w'.kell ⟨b, o, none⟩ = w.kell ⟨b, o, none⟩)
    (ho : ∀ b, ob = some b → ¬ Live bl H b → b < w.heap.size → w'.heap[b]? = w.heap[b]? ∧ ¬ Live bl' H' b ∧ ∀ o, π' b o → π b o) :
    LRel w' bl' π' H' ob p v := by
  refine ⟨h.1.mono hb hπ hc, ?_, ?_⟩
  · intro xs hxs hne
    obtain ⟨a, len, cap, hv, h2⟩ := h.2.1 xs hxs hne
    refine ⟨a, len, cap, hv, ?_⟩
    rcases h2 with h2 | ⟨b, off, k, h1, h2, h4, h5, h6, ⟨cs, t, h7, h8⟩, h9⟩
    · exact .inl h2
    · have hlt : b < w.heap.size := (Array.getElem?_eq_some_iff.1 h7).1
      obtain ⟨g1, g2, g3⟩ := ho b h2 h4 hlt
      exact .inr ⟨b, off, k, h1, h2, g2, h5, h6, ⟨cs, t, g1.trans h7, h8⟩, fun o ho hp => h9 o ho (g3 o hp)⟩
  · intro k hk
    obtain ⟨b, cs, t, h1, h2, h3, h4, h5, h6⟩ := h.2.2 k hk
    have hlt : b < w.heap.size := (Array.getElem?_eq_some_iff.1 h4).1
    obtain ⟨g1, g2, g3⟩ := ho b h2 h3 hlt
    exact ⟨b, cs, t, h1, h2, g2, g1.trans h4, h5, fun o hp => h6 o (g3 o hp)⟩

theorem ORel.move {R R' : Nat → PV → Value → Prop} {S S' : PV → Value → Prop} {w w' : World} {b : Nat} {o : PObj} (h : ORel R S w b o)
    (hR : ∀ i z u, R i z u → R' i z u) (hS : ∀ z u, S z u → S' z u) (hb : o ≠ .dead → w'.heap[b]? = w.heap[b]?) (hs : w.heap.size ≤ w'.heap.size) : ORel R' S' w' b o := by
  cases o with
  | cells pcs =>
    obtain ⟨cs, t, h1, h2, h3⟩ := h
    exact ⟨cs, t, (hb (by simp)).trans h1, h2, fun i z u hz hu => hR _ _ _ (h3 i z u hz hu)⟩
  | map clock es =>
    obtain ⟨arr, h1, h2, h3⟩ := h
    exact ⟨arr, (hb (by simp)).trans h1, h2, fun i kv e hk he => ⟨hS _ _ (h3 i kv e hk he).1, hS _ _ (h3 i kv e hk he).2.1, (h3 i kv e hk he).2.2⟩⟩
  | miter m since seen last =>
    obtain ⟨mb, h1, h2⟩ := h
    exact ⟨mb, (hb (by simp)).trans h1, hS _ _ h2⟩
  | raw o => exact (hb (by simp)).trans h
  | dead => exact Nat.lt_of_lt_of_le h hs

theorem Frame'.refl {w : World} {bl : List Nat} {π : Nat → Nat → Prop} {O : Nat → Prop} {H : List PObj} : Frame' w bl π O H w bl π H :=
  ⟨rfl, rfl, rfl, Nat.le_refl _, fun _ _ h => h, fun i b h hi => by rw [List.getElem?_eq_none hi] at h; simp at h, fun _ _ h => h, fun _ _ h => .inl h, fun _ _ _ _ => rfl, fun _ h => h, fun _ _ _ => rfl⟩

/-- The world has grown; what was there stays. -/
theorem Rel.grow {E : Ent} {s : St} {bl : List Nat} {π : Nat → Nat → Prop} {om : Loc → Option Nat} {a : Act} {w w' : World} (h : Rel E s bl π om a w)
    (hb : Below w.heap.size w w') : Rel E s bl π om a w' := by
  have hcell : ∀ b o, π b o → w'.kell ⟨b, o, none⟩ = w.kell ⟨b, o, none⟩ := fun b o hp => cell_of_block (hb.block b (h.pr b o hp).2)
  have mv : ∀ {ob p v}, LRel w bl π s.H ob p v → LRel w' bl π s.H ob p v :=
    fun hl => hl.move (fun _ _ h => h) (fun _ _ h => h) hcell (fun b _ hL hlt => ⟨hb.block b hlt, hL, fun _ h => h⟩)
  exact {
    dfr := h.dfr.move (fun D hD => .inl hD) (fun D _ hD => (hb.block D (Array.getElem?_eq_some_iff.1 hD).1).trans hD)
    sz := h.sz
    tm := fun t => mv (h.tm t)
    len := h.len
    nd := h.nd
    lt := fun b hm => Nat.lt_of_lt_of_le (h.lt b hm) hb.size
    ob := fun id o b ho hbl => (h.ob id o b ho hbl).move (fun _ _ _ hl => mv hl) (fun _ _ hl => hl.mono (fun _ _ h => h) (fun _ _ h => h) hcell)
      (fun _ => hb.block b (h.lt b (List.mem_of_getElem? hbl))) hb.size
    pr := fun b o hp => ⟨(h.pr b o hp).1, Nat.lt_of_lt_of_le (h.pr b o hp).2 hb.size⟩
    inj := h.inj
    omw := fun ℓ b ho => by
      obtain ⟨⟨cs, t, h1⟩, h2⟩ := h.omw ℓ b ho
      exact ⟨⟨cs, t, (hb.block b (h.omlt ℓ b ho)).trans h1⟩, h2⟩
    omc := h.omc
    fr := ⟨hb.os.trans h.fr.os, hb.tape.trans h.fr.tape, hb.output.trans h.fr.output, Nat.le_trans h.fr.size hb.size, h.fr.pre, h.fr.new, h.fr.sub, h.fr.fresh,
      fun b hlt hL hO => (hb.block b (Nat.lt_of_lt_of_le hlt h.fr.size)).trans (h.fr.block b hlt hL hO), h.fr.dead, fun b o hp => (hcell b o (h.fr.sub b o hp)).trans (h.fr.cell b o hp)⟩
    el := h.el }

/-- More cells stay as they are from now on. -/
theorem Rel.prot {E : Ent} {s : St} {bl : List Nat} {π : Nat → Nat → Prop} {om : Loc → Option Nat} {a : Act} {w : World} (h : Rel E s bl π om a w)
    (S : Nat → Nat → Prop) (hS : ∀ b o, S b o → ¬ Live bl s.H b ∧ b < w.heap.size ∧ (E.π b o ∨ E.w.heap.size ≤ b ∨ E.O b) ∧ (π b o ∨ ∀ ℓ, om ℓ ≠ some b)) :
    Rel E s bl (fun b o => π b o ∨ S b o) om a w := by
  have mv : ∀ {ℓ p v}, LRel w bl π s.H (om ℓ) p v → LRel w bl (fun b o => π b o ∨ S b o) s.H (om ℓ) p v :=
    fun {ℓ _ _} hl => hl.move (fun _ _ h => h) (fun _ _ h => .inl h) (fun _ _ _ => rfl) (fun b hob hL hlt => ⟨rfl, hL, fun o ho => by
      rcases ho with ho | ho
      · exact ho
      · exact ((hS b o ho).2.2.2).resolve_right (fun hn => hn ℓ hob)⟩)
  exact {
    dfr := h.dfr
    sz := h.sz
    tm := fun t => mv (h.tm t)
    len := h.len
    nd := h.nd
    lt := h.lt
    ob := fun id o b ho hbl => (h.ob id o b ho hbl).move (fun _ _ _ hl => mv hl) (fun _ _ hl => hl.mono (fun _ _ h => h) (fun _ _ h => .inl h) (fun _ _ _ => rfl)) (fun _ => rfl) (Nat.le_refl _)
    pr := fun b o hp => by
      rcases hp with hp | hp
      · exact h.pr b o hp
      · exact ⟨(hS b o hp).1, (hS b o hp).2.1⟩
    inj := h.inj
    omw := h.omw
    omc := h.omc
    fr := { h.fr with
      sub := fun b o hp => .inl (h.fr.sub b o hp)
      fresh := fun b o hp => by
        rcases hp with hp | hp
        · exact h.fr.fresh b o hp
        · exact (hS b o hp).2.2.1 }
    el := h.el }

/-- A value into a slot. -/
theorem Rel.put {E : Ent} {s : St} {bl : List Nat} {π : Nat → Nat → Prop} {om : Loc → Option Nat} {a : Act} {w : World} (h : Rel E s bl π om a w)
    {d : Nat} (hd : d < E.n) {p : PV} {v : Value} (ob : Option Nat) (hv : LRel w bl π s.H ob p v)
    (hob : ∀ b, ob = some b → ((∃ cs t, w.heap[b]? = some (.cells cs t (0, 0))) ∧ (E.w.heap.size ≤ b ∨ E.O b) ∧ ¬ Live bl s.H b) ∧ ∀ ℓ, ℓ ≠ .t d → om ℓ ≠ some b) :
    Rel E { s with t := upd s.t d p } bl π (upd om (.t d) ob) (a.put (some d) v) w := by
  refine { dfr := h.dfr, sz := by simp [Act.put, h.sz], tm := ?_, len := h.len, nd := h.nd, lt := h.lt, ob := ?_, pr := h.pr, inj := ?_, omw := ?_, omc := fun id off hid => by rw [upd_other _ _ (by simp)]; exact h.omc id off hid, fr := h.fr, el := h.el }
  · intro t
    by_cases ht : t = d
    · subst ht
      have : (a.put (some t) v).tmps.getD t undef = v := by
        simp only [Act.put, Array.getD_eq_getD_getElem?]
        rw [Array.getElem?_setIfInBounds_self_of_lt (by rw [h.sz]; exact hd)]; rfl
      rw [this]
      simp only [upd_same]
      exact hv
    · have : (a.put (some d) v).tmps.getD t undef = a.tmps.getD t undef := by
        simp only [Act.put, Array.getD_eq_getD_getElem?]
        rw [Array.getElem?_setIfInBounds_ne (Ne.symm ht)]
      rw [this, upd_other _ _ (by simpa using ht)]
      simp only [upd_other _ _ ht]
      exact h.tm t
  · intro id o b ho hbl
    refine (h.ob id o b ho hbl).move (fun off z u hl => ?_) (fun _ _ hl => hl) (fun _ => rfl) (Nat.le_refl _)
    rw [upd_other _ _ (by simp)]
    exact hl
  · intro ℓ ℓ' b h1 h2
    by_cases e1 : ℓ = .t d <;> by_cases e2 : ℓ' = .t d
    · exact e1.trans e2.symm
    · rw [e1, upd_same] at h1
      rw [upd_other _ _ e2] at h2
      exact absurd h2 ((hob b h1).2 ℓ' e2)
    · rw [e2, upd_same] at h2
      rw [upd_other _ _ e1] at h1
      exact absurd h1 ((hob b h2).2 ℓ e1)
    · rw [upd_other _ _ e1] at h1
      rw [upd_other _ _ e2] at h2
      exact h.inj ℓ ℓ' b h1 h2
  · intro ℓ b ho
    by_cases e : ℓ = .t d
    · rw [e, upd_same] at ho
      exact (hob b ho).1
    · rw [upd_other _ _ e] at ho
      exact h.omw ℓ b ho

/-- A value that is no slice of one's own and no new variable. -/
def NoOwn (p : PV) : Prop := (∀ xs, p = .slc true xs → xs = []) ∧ ∀ k, p ≠ .fb k

theorem NoOwn.of {p : PV} (h : ∀ xs, p = .slc true xs → xs = []) (h2 : ∀ k, p ≠ .fb k := by intro k e; cases e) : NoOwn p := ⟨h, h2⟩

theorem PV.strip_ne (p : PV) : NoOwn p.strip := by
  refine ⟨?_, ?_⟩
  · cases p <;> simp [PV.strip]
  · cases p <;> simp [PV.strip]

theorem LRel.plain {w : World} {bl : List Nat} {π : Nat → Nat → Prop} {H : List PObj} {ob : Option Nat} {p : PV} {v : Value} (h : VRel w bl π p v) (hp : NoOwn p) :
    LRel w bl π H ob p v := ⟨h, fun xs e hne => absurd (hp.1 xs e) hne, fun k e => absurd e (hp.2 k)⟩

/-- A slot gives up its array. -/
theorem Rel.disown {E : Ent} {s : St} {bl : List Nat} {π : Nat → Nat → Prop} {om : Loc → Option Nat} {a : Act} {w : World} (h : Rel E s bl π om a w)
    (d : Nat) : Rel E { s with t := upd s.t d (s.t d).strip } bl π (upd om (.t d) none) a w := by
  refine { dfr := h.dfr, sz := h.sz, tm := ?_, len := h.len, nd := h.nd, lt := h.lt, ob := ?_, pr := h.pr, inj := ?_, omw := ?_, omc := fun id off hid => by rw [upd_other _ _ (by simp)]; exact h.omc id off hid, fr := h.fr, el := h.el }
  · intro t
    by_cases ht : t = d
    · subst ht
      simp only [upd_same]
      exact .plain (h.tm t).1.strip (PV.strip_ne _)
    · rw [upd_other _ _ (by simpa using ht)]
      simp only [upd_other _ _ ht]
      exact h.tm t
  · intro id o b ho hbl
    refine (h.ob id o b ho hbl).move (fun off z u hl => ?_) (fun _ _ hl => hl) (fun _ => rfl) (Nat.le_refl _)
    rw [upd_other _ _ (by simp)]
    exact hl
  · intro ℓ ℓ' b h1 h2
    by_cases e1 : ℓ = .t d
    · rw [e1, upd_same] at h1; simp at h1
    · by_cases e2 : ℓ' = .t d
      · rw [e2, upd_same] at h2; simp at h2
      · rw [upd_other _ _ e1] at h1
        rw [upd_other _ _ e2] at h2
        exact h.inj ℓ ℓ' b h1 h2
  · intro ℓ b ho
    by_cases e : ℓ = .t d
    · rw [e, upd_same] at ho; simp at ho
    · rw [upd_other _ _ e] at ho
      exact h.omw ℓ b ho

/-- Free cells of a block that is no object's are written. -/
theorem Rel.scribble {E : Ent} {s : St} {bl : List Nat} {π : Nat → Nat → Prop} {om : Loc → Option Nat} {a : Act} {w w' : World} (h : Rel E s bl π om a w)
    (b : Nat) (hB : E.w.heap.size ≤ b ∨ E.O b) (hL : ¬ Live bl s.H b) (hom : ∀ ℓ, om ℓ ≠ some b) (hcs : ∃ cs t f, w.heap[b]? = some (.cells cs t f)) (hs : w'.heap.size = w.heap.size) (ho : w'.os = w.os) (ht : w'.tape = w.tape) (hu : w'.output = w.output)
    (hne : ∀ b', b' ≠ b → w'.heap[b']? = w.heap[b']?) (hc : ∀ o, π b o → w'.kell ⟨b, o, none⟩ = w.kell ⟨b, o, none⟩) : Rel E s bl π om a w' := by
  have hcell : ∀ b' o, π b' o → w'.kell ⟨b', o, none⟩ = w.kell ⟨b', o, none⟩ := fun b' o hp => by
    by_cases e : b' = b
    · subst e; exact hc o hp
    · exact cell_of_block (hne b' e)
  have mv : ∀ {ℓ p v}, LRel w bl π s.H (om ℓ) p v → LRel w' bl π s.H (om ℓ) p v :=
    fun {ℓ _ _} hl => hl.move (fun _ _ h => h) (fun _ _ h => h) hcell (fun b' hob hL' _ => ⟨hne b' (fun e => hom ℓ (e ▸ hob)), hL', fun _ h => h⟩)
  exact {
    dfr := h.dfr.move (fun D hD => .inl hD) (fun D _ hD => (hne D (fun e => by obtain ⟨cs, t, f, h1⟩ := hcs; rw [← e, hD] at h1; cases h1)).trans hD)
    sz := h.sz
    tm := fun t => mv (h.tm t)
    len := h.len
    nd := h.nd
    lt := fun b' hm => by rw [hs]; exact h.lt b' hm
    ob := fun id o b' ho' hbl => (h.ob id o b' ho' hbl).move (fun _ _ _ hl => mv hl) (fun _ _ hl => hl.mono (fun _ _ h => h) (fun _ _ h => h) hcell)
      (fun hd => hne b' (fun e => hL ⟨id, o, by rw [hbl, e], ho', hd⟩)) (Nat.le_of_eq hs.symm)
    pr := fun b' o hp => by rw [hs]; exact h.pr b' o hp
    inj := h.inj
    omw := fun ℓ b' hb' => by
      obtain ⟨⟨cs, t, h1⟩, h2⟩ := h.omw ℓ b' hb'
      exact ⟨⟨cs, t, (hne b' (fun e => hom ℓ (e ▸ hb'))).trans h1⟩, h2⟩
    omc := h.omc
    fr := { h.fr with
      os := ho.trans h.fr.os
      tape := ht.trans h.fr.tape
      output := hu.trans h.fr.output
      size := by rw [hs]; exact h.fr.size
      block := fun b' hlt hL' hO => (hne b' (fun e => by subst e; rcases hB with hB | hB; omega; exact hO hB)).trans (h.fr.block b' hlt hL' hO)
      cell := fun b' o hp => (hcell b' o (h.fr.sub b' o hp)).trans (h.fr.cell b' o hp) }
    el := h.el }

theorem live_append {bl : List Nat} {H : List PObj} {b x : Nat} {o : PObj} (hl : bl.length = H.length) : Live (bl ++ [x]) (H ++ [o]) b ↔ Live bl H b ∨ (b = x ∧ o ≠ .dead) := by
  constructor
  · rintro ⟨id, q, h1, h2, h3⟩
    by_cases h : id < bl.length
    · rw [List.getElem?_append_left h] at h1
      rw [List.getElem?_append_left (by omega)] at h2
      exact .inl ⟨id, q, h1, h2, h3⟩
    · have hid : id = bl.length := by
        have := (List.getElem?_eq_some_iff.1 h1).1
        simp at this
        omega
      subst hid
      simp at h1
      rw [hl] at h2
      simp at h2
      subst h2
      exact .inr ⟨h1.symm, h3⟩
  · rintro (⟨id, q, h1, h2, h3⟩ | ⟨rfl, h3⟩)
    · have h1' := (List.getElem?_eq_some_iff.1 h1).1
      exact ⟨id, q, by rw [List.getElem?_append_left h1']; exact h1, by rw [List.getElem?_append_left (by omega)]; exact h2, h3⟩
    · exact ⟨bl.length, o, by simp, by rw [hl]; simp, h3⟩

/-- A new object in a new block. -/
theorem Rel.newObj {E : Ent} {s : St} {bl : List Nat} {π : Nat → Nat → Prop} {om : Loc → Option Nat} {a : Act} {w : World} (h : Rel E s bl π om a w)
    (ob : Obj) (o : PObj)
    (ho : ∀ w', w'.heap[w.heap.size]? = some ob → (∀ b o, π b o → w'.kell ⟨b, o, none⟩ = w.kell ⟨b, o, none⟩) → w.heap.size < w'.heap.size →
      ORel (fun _ => LRel w' (bl ++ [w.heap.size]) π (s.H ++ [o]) none) (VRel w' (bl ++ [w.heap.size]) π) w' w.heap.size o) :
    Rel E { s with H := s.H ++ [o] } (bl ++ [w.heap.size]) π om a (w.alloc ob) := by
  have hom : ∀ off, om (.c s.H.length off) = none := fun off => h.omc _ off (Nat.le_refl _)
  have hb : Below w.heap.size w (w.alloc ob) := (Below.refl _ _).alloc (Nat.le_refl _) _
  have hcell : ∀ b o, π b o → (w.alloc ob).kell ⟨b, o, none⟩ = w.kell ⟨b, o, none⟩ := fun b o hp => cell_of_block (hb.block b (h.pr b o hp).2)
  have hpre : ∀ i b : Nat, bl[i]? = some b → (bl ++ [w.heap.size])[i]? = some b := fun i b hi => by
    rw [List.getElem?_append_left (List.getElem?_eq_some_iff.1 hi).1]; exact hi
  have hsz : (w.alloc ob).heap.size = w.heap.size + 1 := World.size_alloc _ _
  have mv : ∀ {ob' p v}, LRel w bl π s.H ob' p v → LRel (w.alloc ob) (bl ++ [w.heap.size]) π (s.H ++ [o]) ob' p v :=
    fun hl => hl.move hpre (fun _ _ h => h) hcell (fun b _ hL hlt => ⟨hb.block b hlt, fun hL' => by
      rcases (live_append h.len).1 hL' with hL' | ⟨rfl, _⟩
      · exact hL hL'
      · omega, fun _ h => h⟩)
  exact {
    dfr := h.dfr.move (fun D hD => by simp at hD; rcases hD with hD | hD; exact .inl hD; exact .inr (by omega)) (fun D _ hD => (hb.block D (Array.getElem?_eq_some_iff.1 hD).1).trans hD)
    sz := h.sz
    tm := fun t => mv (h.tm t)
    len := by simp [h.len]
    nd := by
      rw [List.nodup_append]
      exact ⟨h.nd, by simp, by intro x hx y hy; simp at hy; have := h.lt x hx; omega⟩
    lt := fun b hm => by
      rw [hsz]
      simp at hm
      rcases hm with hm | rfl
      · have := h.lt b hm; omega
      · omega
    ob := fun id q b hq hbl => by
      by_cases hid : id < s.H.length
      · simp only [List.getElem?_append_left hid] at hq
        rw [List.getElem?_append_left (by rw [h.len]; exact hid)] at hbl
        exact (h.ob id q b hq hbl).move (fun _ _ _ hl => mv hl) (fun _ _ hl => hl.mono hpre (fun _ _ h => h) hcell)
          (fun _ => hb.block b (h.lt b (List.mem_of_getElem? hbl))) hb.size
      · have hid' : id = s.H.length := by
          have := (List.getElem?_eq_some_iff.1 hq).1
          simp at this
          omega
        subst hid'
        simp at hq
        rw [← h.len] at hbl
        simp at hbl
        subst hq
        subst hbl
        have := ho (w.alloc ob) (by show (w.heap.push ob)[w.heap.size]? = some ob; simp) hcell (by omega)
        simpa only [hom] using this
    pr := fun b o hp => ⟨fun hL' => by
      rcases (live_append h.len).1 hL' with hL' | ⟨rfl, _⟩
      · exact (h.pr b o hp).1 hL'
      · have := (h.pr _ o hp).2; omega, by rw [hsz]; have := (h.pr b o hp).2; omega⟩
    inj := h.inj
    omw := fun ℓ b ho => by
      obtain ⟨⟨cs, t, h1⟩, h2, h3⟩ := h.omw ℓ b ho
      exact ⟨⟨cs, t, (hb.block b (h.omlt ℓ b ho)).trans h1⟩, h2, fun hL' => by
        rcases (live_append h.len).1 hL' with hL' | ⟨rfl, _⟩
        · exact h3 hL'
        · have := h.omlt _ _ ho; omega⟩
    omc := fun id off hid => h.omc id off (by simp at hid; omega)
    fr := { os := h.fr.os, tape := h.fr.tape, output := h.fr.output, size := by rw [hsz]; have := h.fr.size; omega
            pre := fun i b hi => hpre i b (h.fr.pre i b hi)
            new := fun i b hi hle => by
              by_cases hlt : i < bl.length
              · rw [List.getElem?_append_left hlt] at hi
                exact h.fr.new i b hi hle
              · have := List.mem_of_getElem? hi
                have hi' : i = bl.length := by
                  have := (List.getElem?_eq_some_iff.1 hi).1
                  simp at this
                  omega
                subst hi'
                simp at hi
                have := h.fr.size
                omega
            sub := h.fr.sub
            fresh := h.fr.fresh
            block := fun b hlt hL hO => (hb.block b (Nat.lt_of_lt_of_le hlt h.fr.size)).trans (h.fr.block b hlt hL hO)
            dead := fun id hid => by
              have h1 := h.fr.dead id hid
              have h2 := (List.getElem?_eq_some_iff.1 h1).1
              show (s.H ++ [o])[id]? = some .dead
              rw [List.getElem?_append_left h2]
              exact h1
            cell := fun b o hp => (hcell b o (h.fr.sub b o hp)).trans (h.fr.cell b o hp) }
    el := h.el }

/-- What is live stays so where an object is replaced by another. -/
theorem live_set {bl : List Nat} {H : List PObj} {id b : Nat} {o o' : PObj} (hg : H[id]? = some o) (h1 : o ≠ .dead) (h2 : o' ≠ .dead) : Live bl (H.set id o') b ↔ Live bl H b := by
  have hlt := (List.getElem?_eq_some_iff.1 hg).1
  constructor
  · rintro ⟨i, q, g1, g2, g3⟩
    by_cases e : i = id
    · subst e; exact ⟨i, o, g1, hg, h1⟩
    · rw [List.getElem?_set_ne (Ne.symm e)] at g2
      exact ⟨i, q, g1, g2, g3⟩
  · rintro ⟨i, q, g1, g2, g3⟩
    by_cases e : i = id
    · subst e; exact ⟨i, o', g1, by rw [List.getElem?_set_self hlt], h2⟩
    · exact ⟨i, q, g1, by rw [List.getElem?_set_ne (Ne.symm e)]; exact g2, g3⟩

/-- An object's block is turned. -/
theorem Rel.setObj {E : Ent} {s : St} {bl : List Nat} {π : Nat → Nat → Prop} {om om' : Loc → Option Nat} {a : Act} {w w' : World} (h : Rel E s bl π om a w)
    {id b : Nat} {o o' : PObj} (hg : s.H[id]? = some o) (hbl : bl[id]? = some b) (h1 : o ≠ .dead) (h2 : o' ≠ .dead)
    (hs : w'.heap.size = w.heap.size) (ho : w'.os = w.os) (ht : w'.tape = w.tape) (hu : w'.output = w.output) (hne : ∀ b', b' ≠ b → w'.heap[b']? = w.heap[b']?)
    (hom : ∀ ℓ, (∀ off, ℓ ≠ .c id off) → om' ℓ = om ℓ) (hinj : ∀ ℓ ℓ' b, om' ℓ = some b → om' ℓ' = some b → ℓ = ℓ') (homw : ∀ ℓ b, om' ℓ = some b → (∃ cs t, w'.heap[b]? = some (.cells cs t (0, 0))) ∧ (E.w.heap.size ≤ b ∨ E.O b) ∧ ¬ Live bl s.H b)
    (hO : (∀ b' o, π b' o → w'.kell ⟨b', o, none⟩ = w.kell ⟨b', o, none⟩) → (∀ b', Live bl (s.H.set id o') b' ↔ Live bl s.H b') →
      (∀ b', ¬ Live bl s.H b' → w'.heap[b']? = w.heap[b']?) → ORel (fun off => LRel w' bl π (s.H.set id o') (om' (.c id off))) (VRel w' bl π) w' b o') :
    Rel E { s with H := s.H.set id o' } bl π om' a w' := by
  have hLb : Live bl s.H b := ⟨id, o, hbl, hg, h1⟩
  have hlv : ∀ b', Live bl (s.H.set id o') b' ↔ Live bl s.H b' := fun b' => live_set hg h1 h2
  have hnl : ∀ b', ¬ Live bl s.H b' → w'.heap[b']? = w.heap[b']? := fun b' hL => hne b' (fun e => hL (e ▸ hLb))
  have hcell : ∀ b' o, π b' o → w'.kell ⟨b', o, none⟩ = w.kell ⟨b', o, none⟩ := fun b' o hp => cell_of_block (hnl b' (h.pr b' o hp).1)
  have mv : ∀ {ob p v}, LRel w bl π s.H ob p v → LRel w' bl π (s.H.set id o') ob p v :=
    fun hl => hl.move (fun _ _ h => h) (fun _ _ h => h) hcell (fun b' _ hL _ => ⟨hnl b' hL, fun hL' => hL ((hlv b').1 hL'), fun _ h => h⟩)
  exact {
    dfr := h.dfr.move (fun D hD => .inl hD) (fun D hD hh => (hne D (fun e => hD (e ▸ List.mem_of_getElem? hbl))).trans hh)
    sz := h.sz
    tm := fun t => by rw [hom _ (by simp)]; exact mv (h.tm t)
    len := by simp [h.len]
    nd := h.nd
    lt := fun b' hm => by rw [hs]; exact h.lt b' hm
    ob := fun i q b' hq hb' => by
      by_cases e : i = id
      · subst e
        have hlt := (List.getElem?_eq_some_iff.1 hg).1
        simp only [List.getElem?_set_self hlt] at hq
        cases hq
        rw [hbl] at hb'
        cases hb'
        exact hO hcell hlv hnl
      · simp only [List.getElem?_set_ne (Ne.symm e)] at hq
        refine (h.ob i q b' hq hb').move (fun off z u hl => ?_) (fun _ _ hl => hl.mono (fun _ _ h => h) (fun _ _ h => h) hcell) (fun _ => hne b' (fun e' => ?_)) (Nat.le_of_eq hs.symm)
        · rw [hom _ (by intro off' e'; cases e'; exact e rfl)]
          exact mv hl
        · subst e'
          have := (List.getElem?_eq_some_iff.1 hbl)
          have g2 := (List.getElem?_eq_some_iff.1 hb')
          obtain ⟨l1, e1⟩ := this
          obtain ⟨l2, e2⟩ := g2
          exact e ((List.getElem_inj h.nd).1 (e2.trans e1.symm))
    pr := fun b' o hp => ⟨fun hL => (h.pr b' o hp).1 ((hlv b').1 hL), by rw [hs]; exact (h.pr b' o hp).2⟩
    inj := hinj
    omw := fun ℓ b hb => by
      obtain ⟨g1, g2, g3⟩ := homw ℓ b hb
      exact ⟨g1, g2, fun hL => g3 ((hlv b).1 hL)⟩
    omc := fun i off hid => by
      have hlt := (List.getElem?_eq_some_iff.1 hg).1
      simp only [List.length_set] at hid
      rw [hom _ (by intro off' e; cases e; omega)]
      exact h.omc i off hid
    fr := { h.fr with
      os := ho.trans h.fr.os
      tape := ht.trans h.fr.tape
      output := hu.trans h.fr.output
      size := by rw [hs]; exact h.fr.size
      block := fun b' hlt hL' hO => by
        refine (hne b' (fun e => ?_)).trans (h.fr.block b' hlt hL' hO)
        subst e
        by_cases hi : id < E.bl.length
        · -- an object of the caller's: it would be live there, but for a dead one, which stays dead
          have hbe : E.bl[id]? = some b' := by
            obtain ⟨x, hx⟩ : ∃ x, E.bl[id]? = some x := ⟨_, List.getElem?_eq_getElem hi⟩
            have := h.fr.pre id x hx
            rw [hbl] at this
            cases this
            exact hx
          cases hH : E.H[id]? with
          | none =>
            have := List.getElem?_eq_none_iff.1 hH
            have := h.el
            omega
          | some q =>
            by_cases hd : q = .dead
            · subst hd
              have := h.fr.dead id hH
              rw [hg] at this
              exact h1 (Option.some.inj this)
            · exact hL' ⟨id, q, hbe, hH, hd⟩
        · have := h.fr.new id b' hbl (by omega)
          omega
      dead := fun i hi => by
        by_cases e : i = id
        · subst e
          have := h.fr.dead i hi
          rw [hg] at this
          exact absurd (Option.some.inj this) h1
        · show (s.H.set id o')[i]? = some .dead
          rw [List.getElem?_set_ne (Ne.symm e)]
          exact h.fr.dead i hi
      cell := fun b o hp => (hcell b o (h.fr.sub b o hp)).trans (h.fr.cell b o hp) }
    el := h.el }

end Go.Pi
/- The compact form of a function's code, how it is made, and what its operations do to an abstract state. -/
namespace Go.Pi

inductive Arg where
  | t (n : Nat)
  | c (p : PV)
  deriving Inhabited

inductive PO where
  | copy (x : Arg)
  | take (x : Nat)
  | pick (c a b : Arg)
  | alloc (zero : List PV)
  | box (x : Arg)
  | load (p : Arg) (k : Nat) (agg : Bool)
  | loadT (p : Arg)
  | store (p x : Arg) (k : Nat)
  | storeT (p : Arg) (x : Nat)
  | nilck (x : Arg)
  | padd (p : Arg) (off : Nat)
  | pidxA (p i : Arg) (len k : Nat)
  | pidxS (s i : Arg) (k : Nat)
  | fld (x : Arg) (off k : Nat) (agg : Bool)
  | idx (x i : Arg) (len k : Nat) (agg : Bool)
  | byteAt (x i : Arg)
  | build (zero : List PV) (parts : List (Nat × Nat × Arg))
  | bslice (k : Nat) (parts : List Arg)
  | slice (x : Arg) (lo hi mx : Option Arg) (k : Nat)
  | sslice (x : Arg) (lo hi : Option Arg)
  | len (x : Arg)
  | slen (x : Arg)
  | append (s : Nat) (y : Arg) (k bytes : Nat)
  | bin (op : BinOp) (x y : Arg)
  | eqv (neg : Bool) (ks : List Nat) (x y : Arg)
  | eqb (neg : Bool) (x y : Arg)
  | eqp (neg : Bool) (kd : Nat) (x y : Arg)
  | un (op : UnOp) (x : Arg)
  | conv (k : IntKind) (x : Arg)
  | strcp (x : Arg)
  | ext (x : Arg) (i : Nat)
  | mkclo (f : Nat) (cap : List Arg)
  | mm (isMax : Bool) (xs : List Arg)
  | call (f : Nat) (args : List Arg)
  | pcall (f : Nat) (args : List Arg)
  | callv (f : Arg) (args : List Arg)
  | allocF (k : Nat)
  | storeF (p : Nat) (x : Arg) (k : Nat)
  | boxF (x : Arg)
  | loadE (p : Arg) (k : Nat) (agg : Bool)
  | nilsl
  | tobytes (x : Arg)
  | mkmap
  | mlen (m : Arg)
  | lookup (ks : Bool × List Nat) (zero : PV) (ok : Bool) (m k : Arg)
  | mentry (ks : Bool × List Nat) (zero : PV) (m k : Arg)
  | mstore (m st x : Arg)
  | mupd (ks : Bool × List Nat) (m k x : Arg)
  | mrange (m : Arg)
  | mnext (it : Arg)
  | mcur (it : Arg)
  | mkslice (zero : List PV) (bytes : Nat) (len cap : Arg)
  deriving Inhabited

structure POp where
  dst : Option Nat
  guard : Option (Nat × Bool)
  after : List Nat
  op : PO
  deriving Inhabited

inductive PCode where
  | skip
  | reg (draw : Bool) (ops : List POp)
  | seq (a b : PCode)
  | cond (c : Arg) (a b : PCode)
  | block (id : Nat) (a : PCode)
  | loop (a : PCode)
  | rangef (f : Arg) (params : List Nat) (asg body : PCode)
  | exit (id : Nat)
  | ret
  deriving Inhabited

def PO.isCall : PO → Bool
  | .call .. | .pcall .. | .callv .. | .mnext .. => true
  | _ => false

/-! ### How it is made -/

def constPV : Value → Option PV
  | .slice none 0 0 => some (.slc true [])
  | x => if plainV x then some (.v x) else none

def argOf : Operand → Option Arg
  | .tmp t => some (.t t)
  | .const v => (constPV v).map .c
  | .func f => some (.c (.clo f []))
  | .global _ => none

def zeroOf (P : Program) (t : TypeId) : Option (List PV) :=
  ((P.info? t).bind (·.zero)).bind fun z => z.cells.toList.mapM constPV

def isSliceT (P : Program) (t : TypeId) : Bool := match P.underlying t with | some (.slice _) => true | _ => false
def isMapT (P : Program) (t : TypeId) : Bool := match P.underlying t with | some (.map _ _) => true | _ => false
def isByteT (P : Program) (t : TypeId) : Bool := match P.underlying t with | some (.int .u8) => true | _ => false
def isStringT (P : Program) (t : TypeId) : Bool := match P.underlying t with | some .string => true | _ => false
def aggD : TypeDesc → Bool
  | .struct _ | .array _ _ => true
  | _ => false
def aggT (P : Program) (t : TypeId) : Option Bool := (P.underlying t).map aggD

/-- Size in cells of a type, and whether it is a struct or an array; one that is none has one cell. -/
def sizeAgg (P : Program) (t : TypeId) : Option (Nat × Bool) :=
  match P.info? t, aggT P t with
  | some i, some g => if g || i.size == 1 then some (i.size, g) else none
  | _, _ => none

/-- The kinds of a struct's cells, field by field (0: bool, 1: whole number, 2: string). -/
def flatFields (F : TypeId → Option (List Nat)) : Nat → List Field → Option (List Nat)
  | _, [] => some []
  | n, f :: fs => if f.name != "_" && f.offset == n then (F f.type).bind fun ks => (flatFields F (n + ks.length) fs).map (ks ++ ·) else none

/-- The kinds of the cells of a type that is compared cell by cell. -/
def flatTy (P : Program) : Nat → TypeId → Option (List Nat)
  | 0, _ => none
  | d + 1, t =>
    match P.info? t with
    | none => none
    | some i =>
      match P.underlying t with
      | some .bool => if i.size == 1 then some [0] else none
      | some (.int _) => if i.size == 1 then some [1] else none
      | some .string => if i.size == 1 then some [2] else none
      | some (.struct fs) => if !P.stoodInHeld t && !P.eqGuardType P.depth t then
          (flatFields (flatTy P d) 0 fs.toList).bind fun ks => if ks.length == i.size then some ks else none else none
      | some (.array n e) => if !P.eqGuardType P.depth t then
          (flatTy P d e).bind fun ks => if n * ks.length == i.size then some (List.replicate n ks).flatten else none else none
      | _ => none

def isNeq : BinOp → Bool
  | .neq => true
  | _ => false

def optArgs (l : List Operand) : Option (List Arg) := l.mapM argOf

/-- Does an append in this region take the slot as what it appends to? -/
def appended (ops : Array Oper) (t : Nat) : Bool :=
  ops.any fun o => match o.op with
    | .call { callee := .builtin .append, args, .. } => (match (args[0]? : Option Operand) with | some (Operand.tmp u) => u == t | _ => false)
    | _ => false

def appendedDst (ops : Array Oper) : Option Nat → Bool
  | some d => appended ops d
  | none => false

/-- Is this slot's value a way to what no longer turns? (written among the numbers of the functions that only reckon) -/
def isFz (pures : List Nat) (t : Nat) : Bool := pures.contains (1000000 + t)
def dstFz (pures : List Nat) : Option Nat → Bool
  | some d => isFz pures d
  | none => false
def opFz (pures : List Nat) : Operand → Option Nat
  | .tmp u => if isFz pures u then some u else none
  | _ => none

/-- A type of keys. -/
def keyT (P : Program) (t : TypeId) : Option (Bool × List Nat) := (flatTy P 20 t).bind fun ks => (aggT P t).map fun g => (g, ks)

/-- The zero value of a type, as a map's element. -/
def zeroPV (P : Program) (t : TypeId) : Option PV :=
  ((P.info? t).bind (·.zero)).bind fun z => match z with
    | .agg cs => (cs.toList.mapM constPV).map .agg
    | x => constPV x

def compParts (place : Nat → Option (Nat × Nat)) (parts : List (Nat × Operand)) : Option (List (Nat × Nat × Arg)) :=
  parts.mapM fun (i, x) => (place i).bind fun (off, k) => (argOf x).map fun y => (off, k, y)

def compOp0 (P : Program) (pures : List Nat) (ops : Array Oper) (o : Oper) : Option PO :=
  match o.op with
  | .move x =>
    match x, o.dst with
    | .tmp u, some d => if isSliceT P o.type && appended ops d then some (.take u) else some (.copy (.t u))
    | _, _ => (argOf x).map .copy
  | .assign x =>
    match x with
    | .tmp u => if isSliceT P o.type then some (.take u) else some (.copy (.t u))
    | _ => (argOf x).map .copy
  | .pick c a b => do some (.pick (← argOf c) (← argOf a) (← argOf b))
  | .alloc t => if dstFz pures o.dst then (zeroOf P t).map (fun z => .allocF z.length) else (zeroOf P t).map .alloc
  | .box _ x => if dstFz pures o.dst then (argOf x).map .boxF else (argOf x).map .box
  | .load t p => do
    let (k, g) ← sizeAgg P t
    let y ← argOf p
    if (opFz pures p).isSome then some (.loadE y k g) else if isSliceT P t && appendedDst ops o.dst then some (.loadT y) else some (.load y k g)
  | .store t p x => do
    let (k, _) ← sizeAgg P t
    let y ← argOf p
    match opFz pures p with
    | some q => do some (.storeF q (← argOf x) k)
    | none =>
    match x with
    | .tmp u => if isSliceT P t then some (.storeT y u) else some (.store y (.t u) k)
    | _ => do some (.store y (← argOf x) k)
  | .nilCheck x => (argOf x).map .nilck
  | .fieldAddr t x f =>
    match P.underlying t with
    | some (.struct fs) => do
      let fd ← fs[f]?
      let i ← P.info? fd.type
      if i.size == 0 then none else some (.padd (← argOf x) fd.offset)
    | _ => none
  | .indexAddr t x i =>
    match P.underlying t with
    | some (.array n e) => do
      let j ← P.info? e
      if j.size == 0 then none else some (.pidxA (← argOf x) (← argOf i) n j.size)
    | some (.slice e) => do
      let j ← P.info? e
      if j.size == 0 then none else some (.pidxS (← argOf x) (← argOf i) j.size)
    | _ => none
  | .field t x f =>
    match P.underlying t with
    | some (.struct fs) => do
      let fd ← fs[f]?
      let (k, g) ← sizeAgg P fd.type
      some (.fld (← argOf x) fd.offset k g)
    | _ => none
  | .index t x i =>
    match P.underlying t with
    | some (.array n e) => do
      let (k, g) ← sizeAgg P e
      some (.idx (← argOf x) (← argOf i) n k g)
    | some .string => do some (.byteAt (← argOf x) (← argOf i))
    | _ => none
  | .build t parts =>
    match P.underlying t with
    | some (.struct fs) => do
      let z ← zeroOf P t
      if fs.toList.all (fun f => (P.info? f.type).isSome) then
        some (.build z (← compParts (fun i => (fs[i]?).map fun f => (f.offset, P.cellsOf f.type)) parts.toList))
      else none
    | some (.array _ e) => do
      let z ← zeroOf P t
      let j ← P.info? e
      some (.build z (← compParts (fun i => some (i * j.size, j.size)) parts.toList))
    | _ => none
  | .buildSlice t len parts =>
    match P.underlying t with
    | some (.slice e) => do
      let j ← P.info? e
      if len == 0 && parts.isEmpty then some .nilsl else
      let z ← j.zero
      if parts.toList.map (·.1) == List.range len && len != 0 && j.size != 0 && z.cells.size == j.size && len * j.size ≤ 1000 then
        some (.bslice j.size (← optArgs (parts.toList.map (·.2))))
      else none
    | _ => none
  | .slice t x lo hi mx =>
    match P.underlying t with
    | some (.slice e) => do
      let j ← P.info? e
      some (.slice (← argOf x) (← lo.mapM argOf) (← hi.mapM argOf) (← mx.mapM argOf) j.size)
    | some .string => if mx.isSome then none else do some (.sslice (← argOf x) (← lo.mapM argOf) (← hi.mapM argOf))
    | _ => none
  | .binOp op t x y _ =>
    match op with
    | .eql | .neq =>
      match P.underlying t with
      | some (.int _) | some .string => do some (.bin op (← argOf x) (← argOf y))
      | some (.pointer e) => if P.cellsOf e == 0 then none else do some (.eqp (isNeq op) 0 (← argOf x) (← argOf y))
      | some (.map _ _) => do some (.eqp (isNeq op) 1 (← argOf x) (← argOf y))
      | some (.func _ _ _) => do some (.eqp (isNeq op) 2 (← argOf x) (← argOf y))
      | some .bool => do some (.eqb (isNeq op) (← argOf x) (← argOf y))
      | some (.struct _) | some (.array _ _) => do some (.eqv (isNeq op) (← flatTy P 20 t) (← argOf x) (← argOf y))
      | _ => none
    | _ => do some (.bin op (← argOf x) (← argOf y))
  | .unOp op _ x => (argOf x).map (.un op)
  | .convert s d x =>
    match P.underlying s, P.underlying d with
    | some (.int _), some (.int k) => (argOf x).map (.conv k)
    | some .string, some .string => (argOf x).map .strcp
    | some .string, some (.slice e) => if isByteT P e then (argOf x).map .tobytes else none
    | _, _ => none
  | .extract x i => (argOf x).map (.ext · i)
  | .makeFunc (.func f) first cap => if first.isEmpty then (optArgs cap.toList).map (.mkclo f) else none
  | .call c =>
    match c.callee with
    | .value (.func f) => (optArgs c.args.toList).map (if pures.contains f then .pcall f else .call f)
    | .value x => do some (.callv (← argOf x) (← optArgs c.args.toList))
    | .builtin .len => match c.argTypes[0]?, c.args.toList with
      | some t, [x] => if isSliceT P t then (argOf x).map .len else if isStringT P t then (argOf x).map .slen else if isMapT P t then (argOf x).map .mlen else none
      | _, _ => none
    | .builtin .append => match c.argTypes.toList, c.args.toList with
      | [t, u], [.tmp s, y] =>
        match P.underlying t with
        | some (.slice e) => do
          let j ← P.info? e
          let z ← j.zero
          if t == u && j.size != 0 && z.cells.size == j.size then some (.append s (← argOf y) j.size j.bytes) else none
        | _ => none
      | _, _ => none
    | .builtin .min => (optArgs c.args.toList).map (.mm false)
    | .builtin .max => (optArgs c.args.toList).map (.mm true)
    | _ => none
  | .makeMap _ none => some .mkmap
  | .lookup t m k ok =>
    match P.underlying t with
    | some (.map kt e) => do some (.lookup (← keyT P kt) (← zeroPV P e) ok (← argOf m) (← argOf k))
    | _ => none
  | .mapEntry t m k =>
    match P.underlying t with
    | some (.map kt e) => do some (.mentry (← keyT P kt) (← zeroPV P e) (← argOf m) (← argOf k))
    | _ => none
  | .entryStore _ m st x => do some (.mstore (← argOf m) (← argOf st) (← argOf x))
  | .mapUpdate t m k x =>
    match P.underlying t with
    | some (.map kt _) => do some (.mupd (← keyT P kt) (← argOf m) (← argOf k) (← argOf x))
    | _ => none
  | .insert t m k x =>
    match P.underlying t with
    | some (.map kt _) => do some (.mupd (← keyT P kt) (← argOf m) (← argOf k) (← argOf x))
    | _ => none
  | .range t x => if isMapT P t then (argOf x).map .mrange else none
  | .next it false => (argOf it).map .mnext
  | .entry it => (argOf it).map .mcur
  | .makeSlice t len cap =>
    match P.underlying t with
    | some (.slice e) => do
      let j ← P.info? e
      let z ← zeroOf P e
      if j.size == z.length && j.size != 0 then some (.mkslice z j.bytes (← argOf len) (← argOf cap)) else none
    | _ => none
  | _ => none

def callsValue : Op → Bool
  | .call { callee := .value _, .. } => true
  | .next _ _ => true
  | _ => false

def compOp (P : Program) (pures : List Nat) (ops : Array Oper) (o : Oper) : Option PO :=
  match compOp0 P pures ops o with
  | some q => if !q.isCall || callsValue o.op then some q else none
  | none => none

theorem compOp_spec {P : Program} {pures : List Nat} {ops : Array Oper} {o : Oper} {q : PO} (h : compOp P pures ops o = some q) : compOp0 P pures ops o = some q ∧ (q.isCall = true → callsValue o.op = true) := by
  unfold compOp at h
  split at h
  · rename_i q' hq
    split at h
    · rename_i hc
      cases h
      refine ⟨hq, fun h => ?_⟩
      rw [h] at hc
      simpa using hc
    · cases h
  · cases h

def compOper (P : Program) (pures : List Nat) (n : Nat) (ops : Array Oper) (o : Oper) : Option POp := do
  let op ← compOp P pures ops o
  let g ← match o.guard with
    | none => some none
    | some (j, b) => ((ops[j]?).bind (·.dst)).map fun t => some (t, b)
  if (match o.dst with | some d => decide (d < n) | none => true) then
    some { dst := o.dst, guard := g, after := (o.after.toList.filter (Region.binds .any)).map (·.on), op }
  else none

/-! ### Which operations may change places -/

def Arg.reads : Arg → List Nat
  | .t n => [n]
  | .c _ => []

def PO.args : PO → List Arg
  | .copy x | .box x | .loadT x | .nilck x | .padd x _ | .fld x _ _ _ | .un _ x | .conv _ x | .ext x _ | .len x | .strcp x | .slen x | .load x _ _ => [x]
  | .loadE x _ _ | .boxF x | .tobytes x | .mlen x | .mrange x | .mnext x | .mcur x => [x]
  | .allocF _ | .nilsl | .mkmap => []
  | .storeF p x _ => [.t p, x]
  | .lookup _ _ _ m k | .mentry _ _ m k => [m, k]
  | .mstore m st x => [m, st, x]
  | .mupd _ m k x => [m, k, x]
  | .mkslice _ _ l c => [l, c]
  | .take x => [.t x]
  | .pick c a b => [c, a, b]
  | .alloc _ => []
  | .store p x _ => [p, x]
  | .storeT p x => [p, .t x]
  | .pidxA p i _ _ | .pidxS p i _ | .idx p i _ _ _ | .byteAt p i => [p, i]
  | .build _ ps => ps.map (·.2.2)
  | .bslice _ ps => ps
  | .slice x lo hi mx _ => [x] ++ lo.toList ++ hi.toList ++ mx.toList
  | .sslice x lo hi => [x] ++ lo.toList ++ hi.toList
  | .append s y _ _ => [.t s, y]
  | .bin _ x y | .eqv _ _ x y | .eqb _ x y | .eqp _ _ x y => [x, y]
  | .mkclo _ xs | .mm _ xs | .call _ xs | .pcall _ xs => xs
  | .callv f xs => f :: xs

/-- Slots that an operation writes beside its own. -/
def PO.strips : PO → List Nat
  | .take x => [x]
  | .storeT _ x => [x]
  | .append s _ _ _ => [s]
  | .storeF p _ _ => [p]
  | _ => []

inductive HC where
  | pure | read | alloc | write | never
  deriving DecidableEq

def PO.hc : PO → HC
  | .alloc _ | .box _ => .alloc
  | .load .. | .loadT _ => .read
  | .store .. | .storeT .. | .call .. | .callv .. | .mkmap | .mlen .. | .lookup .. | .mentry .. | .mstore .. | .mupd .. | .mrange .. | .mcur .. | .mkslice .. => .write
  | .mnext .. => .never
  | _ => .pure

def POp.reads (o : POp) : List Nat := o.op.args.flatMap Arg.reads ++ (o.guard.map (·.1)).toList
def POp.writes (o : POp) : List Nat := o.dst.toList ++ o.op.strips

def sameZero : PV → PV → Bool
  | .v (.int k n), .v (.int k' n') => k == k' && n == n'
  | _, _ => false

/-- A look at an entry, and the entry's making. -/
def lookEntry (o q : POp) : Bool :=
  match o, q with
  | ⟨_, none, _, .lookup ks z false (.t a) (.t b)⟩, ⟨_, none, _, .mentry ks' z' (.t a') (.t b')⟩ => ks == ks' && a == a' && b == b' && sameZero z z'
  | _, _ => false

/-- o, that stands first, may come behind q. -/
def swappable (o q : POp) : Bool :=
  o.writes.all (fun t => !q.reads.contains t && !q.writes.contains t) && q.writes.all (fun t => !o.reads.contains t) &&
  (lookEntry o q || match o.op.hc, q.op.hc with
  | .never, _ => false
  | _, .never => false
  | .pure, _ => true
  | .write, .pure => !(o.op.isCall && q.op.isCall)
  | _, .pure => true
  | .read, .read => !(o.op matches .loadT _) || !(q.op matches .loadT _)
  | .read, .alloc => true
  | _, _ => false)

/-- For each operation, those that it waits for, near and far, as a number's bits. -/
def predsOf : List POp → List Nat → List Nat
  | [], acc => acc
  | q :: qs, acc => predsOf qs (acc ++ [q.after.foldl (fun m i => m ||| (2 ^ i ||| acc.getD i 0)) 0])

/-- Each operation may come ahead of each that it does not wait for. -/
def anyOrder (ops : List POp) : Bool :=
  ops.zipIdx.all fun (q, j) => q.after.all (· < j) && (ops.take j).zipIdx.all fun (o, i) => ((predsOf ops []).getD j 0).testBit i || swappable o q

def compCode (P : Program) (pures : List Nat) (n : Nat) : Code → Option PCode
  | .skip => some .skip
  | .region _ ops draw => do
    let l ← ops.toList.mapM (compOper P pures n ops)
    if !draw || anyOrder l then some (.reg draw l) else none
  | .seq a b => do some (.seq (← compCode P pures n a) (← compCode P pures n b))
  | .cond c a b => do some (.cond (← argOf c) (← compCode P pures n a) (← compCode P pures n b))
  | .block id a => (compCode P pures n a).map (.block id)
  | .loop a => (compCode P pures n a).map .loop
  | .rangeFunc f ps a b => do
    let g ← argOf f
    let x ← compCode P pures n a
    let y ← compCode P pures n b
    if ps.toList.all (· < n) then some (.rangef g ps.toList x y) else none
  | .exit id => some (.exit id)
  | .ret => some .ret
  | _ => none

/-! ### What the operations do -/

def St.arg (s : St) : Arg → PV
  | .t n => (s.t n).strip
  | .c p => p

def St.set (s : St) (d : Option Nat) (p : PV) : St := match d with | some d => { s with t := upd s.t d p } | none => s

def cellsAt (cs : List PV) (off k : Nat) : Option (List PV) := if off + k ≤ cs.length then some ((cs.drop off).take k) else none

def mkAgg (g : Bool) (l : List PV) : Option PV := if g then some (.agg l) else match l with | [x] => some x | _ => none

def objCells (H : List PObj) (id : Nat) : Option (List PV) := match H[id]? with | some (.cells cs) => some cs | _ => none

def loadPV (H : List PObj) (p : PV) (k : Nat) (g : Bool) : Option PV :=
  match p with
  | .ptr id off => (objCells H id).bind fun cs => (cellsAt cs off k).bind fun l => mkAgg g (l.map PV.strip)
  | .ept cs off => (cellsAt cs off k).bind fun l => mkAgg g (l.map PV.strip)
  | _ => none

def setAt (cs : List PV) (off : Nat) (l : List PV) : Option (List PV) :=
  if off + l.length ≤ cs.length then some (cs.take off ++ l ++ cs.drop (off + l.length)) else none

def storable (l : List PV) : Bool := l.all PV.one

def storePV (H : List PObj) (p x : PV) (k : Nat) : Option (List PObj) :=
  match p with
  | .ptr id off => (objCells H id).bind fun cs => if x.cells.length = k ∧ storable x.cells = true then (setAt cs off (x.cells.map PV.strip)).map fun cs' => H.set id (.cells cs') else none
  | _ => none

def bopV (op : BinOp) (k : IntKind) (a b : Int) : Option Value :=
  match op with
  | .add => some (.int k (k.wrap (a + b)))
  | .sub => some (.int k (k.wrap (a - b)))
  | .mul => some (.int k (k.wrap (a * b)))
  | .quo => if b = 0 then none else some (.int k (k.wrap (a.tdiv b)))
  | .rem => if b = 0 then none else some (.int k (a.tmod b))
  | .and => some (.int k (k.wrap (BitVec.ofInt k.bits a &&& BitVec.ofInt k.bits b).toNat))
  | .or => some (.int k (k.wrap (BitVec.ofInt k.bits a ||| BitVec.ofInt k.bits b).toNat))
  | .xor => some (.int k (k.wrap (BitVec.ofInt k.bits a ^^^ BitVec.ofInt k.bits b).toNat))
  | .andNot => some (.int k (k.wrap (BitVec.ofInt k.bits a &&& ~~~ BitVec.ofInt k.bits b).toNat))
  | .eql => some (.bool (a == b))
  | .neq => some (.bool (a != b))
  | .lss => some (.bool (decide (a < b)))
  | .leq => some (.bool (decide (a ≤ b)))
  | .gtr => some (.bool (decide (a > b)))
  | .geq => some (.bool (decide (a ≥ b)))
  | _ => none

def shiftV (op : BinOp) (k : IntKind) (a b : Int) : Option Value :=
  if b < 0 then none else
  match op with
  | .shl => some (.int k (k.wrap (a * 2 ^ (min b.toNat k.bits))))
  | .shr => some (.int k (a.fdiv (2 ^ (min b.toNat k.bits))))
  | _ => none

def strV (op : BinOp) (a b : ByteArray) : Option Value :=
  match op with
  | .add => if ((a.size + b.size : Nat) : Int) > IntKind.i64.max then none else some (.string (a ++ b))
  | .eql => some (.bool (a.toList == b.toList))
  | .neq => some (.bool !(a.toList == b.toList))
  | .lss => some (.bool (Op.bytesLess a.toList b.toList))
  | .leq => some (.bool (Op.bytesLess a.toList b.toList || a.toList == b.toList))
  | .gtr => some (.bool !(Op.bytesLess a.toList b.toList || a.toList == b.toList))
  | .geq => some (.bool !(Op.bytesLess a.toList b.toList))
  | _ => none

def isShift : BinOp → Bool
  | .shl | .shr => true
  | _ => false

def binPV (op : BinOp) (x y : PV) : Option PV :=
  match x, y with
  | .v (.int k a), .v (.int k' b) =>
    (if isShift op = true then shiftV op k a b else if k = k' then bopV op k a b else none).map .v
  | .v (.string a), .v (.string b) => (strV op a b).map .v
  | _, _ => none

def unPV (op : UnOp) (x : PV) : Option PV :=
  match op, x with
  | .not, .v (.bool b) => some (.v (.bool !b))
  | .neg, .v (.int k a) => (bopV .sub k 0 a).map .v
  | .xor, .v (.int k a) => (bopV .xor k (if k.signed then -1 else k.max) a).map .v
  | _, _ => none

def sameV : Nat → Value → Value → Option Bool
  | 0, .bool a, .bool b => some (a == b)
  | 1, .int k a, .int k' b => if k = k' then some (a == b) else none
  | 2, .string a, .string b => some (a == b)
  | _, _, _ => none

def eqCells : List Nat → List PV → List PV → Option Bool
  | [], [], [] => some true
  | k :: ks, .v a :: xs, .v b :: ys => (sameV k a b).bind fun p => (eqCells ks xs ys).map fun q => p && q
  | _, _, _ => none

/-- Is it nil? (0: a pointer, 1: a map, 2: a function) -/
def isNil : Nat → PV → Option Bool
  | 0, .v (.pointer none) => some true
  | 0, .ptr _ _ | 0, .ept _ _ => some false
  | 1, .v (.map none) => some true
  | 1, .map _ => some false
  | 2, .v .nilFunc => some true
  | 2, .clo _ _ => some false
  | _, _ => none

def eqpPV (kd : Nat) (x y : PV) : Option Bool :=
  match isNil kd x, isNil kd y with
  | some true, some b => some b
  | some false, some true => some false
  | _, _ => none

def boundOf (s : St) (y dflt : Nat) : Option Arg → Option Nat
  | none => some dflt
  | some a => match s.arg a with
    | .v (.int _ i) => if 0 ≤ i ∧ i ≤ y then some i.toNat else none
    | _ => none

def buildPV (s : St) : List PV → List (Nat × Nat × Arg) → Option (List PV)
  | cs, [] => some cs
  | cs, (off, k, x) :: rest =>
    let l := (s.arg x).cells.map PV.strip
    if l.length = k ∧ storable l = true then (setAt cs off l).bind fun cs' => buildPV s cs' rest else none

def mm2 (isMax : Bool) (x y : PV) : Option PV :=
  match x, y with
  | .v (.int k a), .v (.int _ b) => some (.v (.int k (if isMax then (if b > a then b else a) else (if b < a then b else a))))
  | _, _ => none

/-- The told form of an element. -/
def stripAll (p : PV) : PV := match p with | .agg cs => .agg (cs.map PV.strip) | p => p.strip

/-- A map's key among its entries. -/
def keyEq (ks : Bool × List Nat) (x y : PV) : Option Bool :=
  match ks.1, x, y with
  | true, .agg xs, .agg ys => eqCells ks.2 xs ys
  | false, .v a, .v b => eqCells ks.2 [.v a] [.v b]
  | _, _, _ => none
def findK (ks : Bool × List Nat) (k : PV) : List (PV × PV × Nat) → Option (Option Nat)
  | [] => some none
  | e :: es => (keyEq ks k e.1).bind fun b => if b then some (some 0) else (findK ks k es).map fun o => o.map (· + 1)
def mapOf (H : List PObj) : PV → Option (List (PV × PV × Nat))
  | .v (.map none) => some []
  | .map id => match H[id]? with | some (.map _ es) => some es | _ => none
  | _ => none
def lookPV (H : List PObj) (ks : Bool × List Nat) (zero : PV) (ok : Bool) (m k : PV) : Option PV :=
  (mapOf H m).bind fun es => if (keyEq ks k k).isSome then (findK ks k es).map fun o =>
    let v := (o.bind fun i => es[i]?.map (·.2.1))
    let r := (v.getD zero).strip
    if ok then .tup [r, .v (.bool v.isSome)] else r
  else none
/-- A value that may lie in a map: known, of one cell or a row of such. -/
def elemOK (x : PV) : Bool := storable x.cells
def mentryPV (H : List PObj) (ks : Bool × List Nat) (zero : PV) (m k : PV) : Option (PV × List PObj) :=
  match m with
  | .map id => match H[id]? with
    | some (.map clock es) => if elemOK k && (keyEq ks k k).isSome then (findK ks k es).bind fun o => match o with
      | some i => (es[i]?).map fun e => (.tup [e.2.1, .v (.int .i64 e.2.2)], H.set id (.map clock (es.set i (stripAll k, e.2))))
      | none => some (.tup [zero, .v (.int .i64 clock)], H.set id (.map (clock + 1) (es ++ [(stripAll k, zero, clock)])))
      else none
    | _ => none
  | _ => none
def mstorePV (H : List PObj) (m st x : PV) : Option (List PObj) :=
  match m, st with
  | .map id, .v (.int _ b) => match H[id]? with
    | some (.map clock es) => if elemOK x then (es.findIdx? fun e => ((e.2.2 : Nat) : Int) == b).bind fun i => (es[i]?).map fun e => H.set id (.map clock (es.set i (e.1, stripAll x, e.2.2))) else none
    | _ => none
  | _, _ => none
def mupdPV (H : List PObj) (ks : Bool × List Nat) (m k x : PV) : Option (List PObj) :=
  match m with
  | .map id => match H[id]? with
    | some (.map clock es) => if elemOK k && elemOK x && (keyEq ks k k).isSome then (findK ks k es).bind fun o => match o with
      | some i => (es[i]?).map fun e => H.set id (.map clock (es.set i (stripAll k, stripAll x, e.2.2)))
      | none => some (H.set id (.map (clock + 1) (es ++ [(stripAll k, stripAll x, clock)])))
      else none
    | _ => none
  | _ => none
/-- An iterator over a map, made. -/
def mrangePV (H : List PObj) (m : PV) : Option PObj :=
  match m with
  | .v (.map none) => some (.miter none 0 [] 0)
  | .map id => match H[id]? with | some (.map clock _) => some (.miter (some id) clock [] clock) | _ => none
  | _ => none
/-- What may come of an iterator's step. -/
def NextR (H : List PObj) (it : PV) (r : PV) (H' : List PObj) : Prop :=
  ∃ id, it = .ptr id 0 ∧ ((∃ s l st, H[id]? = some (.miter none s l st) ∧ r = .tup [.v (.bool false)] ∧ H' = H) ∨
    ∃ m since seen last clock es, H[id]? = some (.miter (some m) since seen last) ∧ H[m]? = some (.map clock es) ∧
      (((∀ e ∈ es, e.2.2 < since → e.2.2 ∈ seen) ∧ r = .tup [.v (.bool false)] ∧ H' = H) ∨
        ∃ e ∈ es, e.2.2 ∉ seen ∧ r = .tup [.v (.bool true), e.1, e.2.1] ∧ H' = H.set id (.miter (some m) since (seen ++ [e.2.2]) clock)))
/-- May an iterator's step be taken? (where entries have gone since, nothing is said) -/
def NextOK (H : List PObj) (it : PV) : Prop :=
  ∃ id, it = .ptr id 0 ∧ ((∃ s l st, H[id]? = some (.miter none s l st)) ∨
    ∃ m since seen last clock es, H[id]? = some (.miter (some m) since seen last) ∧ H[m]? = some (.map clock es) ∧ (seen ≠ [] → es ≠ [] → ∃ e ∈ es, e.2.2 < last))
def mcurPV (H : List PObj) (it : PV) : Option PV :=
  match it with
  | .ptr id 0 => match H[id]? with
    | some (.miter (some m) _ seen last) => match H[m]? with
      | some (.map clock es) => if clock = last then seen.getLast?.bind fun st => (es.find? fun e => e.2.2 == st).map fun e => .tup [e.1, e.2.1] else none
      | _ => none
    | _ => none
  | _ => none

/-- What an operation gives that turns no slot but its own and no object. -/
def PO.val (o : PO) (s : St) : Option PV :=
  match o with
  | .copy x => some (s.arg x)
  | .pick c a b => match s.arg c with | .v (.bool t) => some (if t then s.arg a else s.arg b) | _ => none
  | .load p k g => loadPV s.H (s.arg p) k g
  | .nilck x => match s.arg x with | .ptr i o => some (.ptr i o) | .ept cs o => some (.ept cs o) | .clo f cs => some (.clo f cs) | _ => none
  | .padd p n => match s.arg p with | .ptr i o => some (.ptr i (o + n)) | .ept cs o => some (.ept cs (o + n)) | _ => none
  | .pidxA p i n k => match s.arg p, s.arg i with
    | .ptr id o, .v (.int _ j) => if 0 ≤ j ∧ j < n then some (.ptr id (o + j.toNat * k)) else none
    | .ept cs o, .v (.int _ j) => if 0 ≤ j ∧ j < n then some (.ept cs (o + j.toNat * k)) else none
    | _, _ => none
  | .pidxS x i k => match s.arg x, s.arg i with
    | .slc _ xs, .v (.int _ j) => if 0 ≤ j then (xs[j.toNat]?).bind fun e => if e.cells.length = k then some (.ept e.cells 0) else none else none
    | .hsl id o n _, .v (.int _ j) => if 0 ≤ j ∧ j < n then some (.ptr id (o + j.toNat * k)) else none
    | _, _ => none
  | .fld x off k g => match s.arg x with | .agg cs => (cellsAt cs off k).bind fun l => mkAgg g (l.map PV.strip) | _ => none
  | .idx x i n k g => match s.arg x, s.arg i with
    | .agg cs, .v (.int _ j) => if 0 ≤ j ∧ j < n then (cellsAt cs (j.toNat * k) k).bind fun l => mkAgg g (l.map PV.strip) else none
    | _, _ => none
  | .loadE x k g => match s.arg x with
    | .ept cs off => (cellsAt cs off k).bind fun l => mkAgg g (l.map PV.strip)
    | _ => none
  | .boxF x => if storable (s.arg x).cells then some (.ept ((s.arg x).cells.map PV.strip) 0) else none
  | .allocF k => some (.fb k)
  | .nilsl => some (.slc true [])
  | .tobytes x => match s.arg x with
    | .v (.string b) => some (.slc false (b.toList.map fun c => .v (.int .u8 c.toNat)))
    | _ => none
  | .mlen x => (mapOf s.H (s.arg x)).map fun es => .v (.int .i64 es.length)
  | .lookup ks z ok m k => lookPV s.H ks z ok (s.arg m) (s.arg k)
  | .mcur x => mcurPV s.H (s.arg x)
  | .byteAt x i => match s.arg x, s.arg i with
    | .v (.string b), .v (.int _ j) => if 0 ≤ j then (b[j.toNat]?).map fun c => .v (.int .u8 c.toNat) else none
    | _, _ => none
  | .build z ps => (buildPV s (z.map PV.strip) ps).map .agg
  | .slice x lo hi mx k => match s.arg x with
    | .slc _ xs => match mx with
      | none => (boundOf s xs.length xs.length hi).bind fun h => (boundOf s h 0 lo).bind fun l => if l = 0 ∨ (xs.all fun p => p.cells.length == k) = true then some (.slc false ((xs.take h).drop l)) else none
      | some _ => if hi.isNone then none else (boundOf s xs.length 0 mx).bind fun m => (boundOf s m 0 hi).bind fun h => (boundOf s h 0 lo).bind fun l => if l = 0 ∨ (xs.all fun p => p.cells.length == k) = true then some (.slc (decide (h = m)) ((xs.take h).drop l)) else none
    | _ => none
  | .sslice x lo hi => match s.arg x with
    | .v (.string b) => (boundOf s b.size b.size hi).bind fun h => (boundOf s h 0 lo).map fun l => .v (.string (b.extract l h))
    | _ => none
  | .len x => match s.arg x with
    | .slc _ xs => some (.v (.int .i64 xs.length))
    | .hsl _ _ n _ => some (.v (.int .i64 n))
    | _ => none
  | .slen x => match s.arg x with
    | .v (.string b) => some (.v (.int .i64 b.size))
    | _ => none
  | .bin op x y => binPV op (s.arg x) (s.arg y)
  | .eqv neg ks x y => match s.arg x, s.arg y with
    | .agg xs, .agg ys => (eqCells ks xs ys).map fun b => .v (.bool (if neg then !b else b))
    | _, _ => none
  | .eqb neg x y => match s.arg x, s.arg y with
    | .v (.bool b), .v (.bool c) => some (.v (.bool (if neg then !(b == c) else b == c)))
    | _, _ => none
  | .eqp neg kd x y => (eqpPV kd (s.arg x) (s.arg y)).map fun b => .v (.bool (if neg then !b else b))
  | .un op x => unPV op (s.arg x)
  | .conv k x => match s.arg x with | .v (.int _ n) => some (.v (.int k (k.wrap n))) | _ => none
  | .strcp x => match s.arg x with | .v (.string b) => some (.v (.string b)) | _ => none
  | .ext x i => match s.arg x with | .tup l => (l[i]?).map PV.strip | _ => none
  | .mkclo f cap => some (.clo f (cap.map s.arg))
  | .mm isMax xs => match xs with
    | [] => none
    | x :: rest => rest.foldlM (fun p a => mm2 isMax p (s.arg a)) (s.arg x)
  | _ => none

/-- The state behind an operation that is no call. -/
def PO.step (o : PO) (d : Option Nat) (s : St) : Option St :=
  match o with
  | .take x => if d = some x then none else some (({ s with t := upd s.t x (s.t x).strip } : St).set d (s.t x))
  | .alloc z => some (({ s with H := s.H ++ [.cells z] } : St).set d (.ptr s.H.length 0))
  | .box x => if storable (s.arg x).cells then some (({ s with H := s.H ++ [.cells ((s.arg x).cells.map PV.strip)] } : St).set d (.ptr s.H.length 0)) else none
  | .loadT p => match s.arg p with
    | .ptr id off => (objCells s.H id).bind fun cs => (cs[off]?).map fun x =>
        ({ s with H := s.H.set id (.cells (cs.set off x.strip)) } : St).set d x
    | .ept cs off => (cs[off]?).map fun x => s.set d x.strip
    | _ => none
  | .store p x k => (storePV s.H (s.arg p) (s.arg x) k).map fun H => ({ s with H := H } : St).set d .junk
  | .storeT p x => match s.arg p, (s.t x).one with
    | .ptr id off, true => (objCells s.H id).bind fun cs => if off < cs.length then
        some (({ t := upd s.t x (s.t x).strip, H := s.H.set id (.cells (cs.set off (s.t x))) } : St).set d .junk) else none
    | _, _ => none
  | .bslice k ps => if (ps.map s.arg).all (fun p => p.cells.length == k && storable p.cells) then some (s.set d (.slc true ((ps.map s.arg).map stripAll))) else none
  | .append x y k bytes =>
    match s.t x, s.arg y with
    | .slc true xs, .slc _ ys =>
      if (xs.length + ys.length) * bytes ≤ 140737488355328 ∧ xs.length + ys.length ≤ 9223372036854775807 ∧ (ys.all fun p => p.cells.length == k && storable p.cells) = true ∧ (xs.all fun p => p.cells.length == k) = true ∧ d ≠ some x then
        some (({ s with t := upd s.t x (s.t x).strip } : St).set d (.slc true (xs ++ ys)))
      else none
    | _, _ => none
  | .storeF p x k =>
    match s.t p with
    | .fb n => if n = k ∧ (s.arg x).cells.length = k ∧ storable (s.arg x).cells = true ∧ d ≠ some p then
        some (({ s with t := upd s.t p (.ept ((s.arg x).cells.map PV.strip) 0) } : St).set d .junk) else none
    | _ => none
  | .mkmap => some (({ s with H := s.H ++ [.map 0 []] } : St).set d (.map s.H.length))
  | .mentry ks z m k => (mentryPV s.H ks z (s.arg m) (s.arg k)).map fun r => ({ s with H := r.2 } : St).set d r.1
  | .mstore m st x => (mstorePV s.H (s.arg m) (s.arg st) (s.arg x)).map fun H => ({ s with H := H } : St).set d .junk
  | .mupd ks m k x => (mupdPV s.H ks (s.arg m) (s.arg k) (s.arg x)).map fun H => ({ s with H := H } : St).set d .junk
  | .mrange m => (mrangePV s.H (s.arg m)).map fun o => ({ s with H := s.H ++ [o] } : St).set d (.ptr s.H.length 0)
  | .mkslice z b l c =>
    match s.arg l, s.arg c with
    | .v (.int .i64 n), .v (.int .i64 m) => if n = m ∧ 0 ≤ n ∧ n ≤ 9223372036854775807 ∧ n * b ≤ 140737488355328 then
        some (({ s with H := s.H ++ [.cells (List.replicate n.toNat z).flatten] } : St).set d (.hsl s.H.length 0 n.toNat n.toNat)) else none
    | _, _ => none
  | o => (o.val s).map (s.set d)

end Go.Pi
/- The operations that only reckon and read do in the machine what they do to an abstract state. -/
namespace Go.Pi
open Go.RowKit

theorem addr_add (b o n : Nat) : (⟨b, o, none⟩ : Addr).add n = ⟨b, o + n, none⟩ := by unfold Addr.add; split <;> simp_all

theorem storable_ne {p : PV} (h : storable p.cells = true) : p.one = true ∨ ∃ cs, p = .agg cs := by
  cases p with
  | agg cs => exact .inr ⟨cs, rfl⟩
  | _ => left; simpa [storable, PV.cells] using h

theorem one_strip (p : PV) : p.strip.one = p.one := by cases p <;> rfl

theorem storable_strip (l : List PV) : storable (l.map PV.strip) = storable l := by
  induction l with
  | nil => rfl
  | cons x l ih =>
    show (x.strip.one && storable (l.map PV.strip)) = (x.one && storable l)
    rw [one_strip, ih]

theorem constRel {w : World} {bl : List Nat} {π : Nat → Nat → Prop} {v : Value} {p : PV} (h : constPV v = some p) : VRel w bl π p v := by
  unfold constPV at h
  split at h
  · cases h; exact .slc0 (fun _ => rfl)
  · split at h
    · cases h; exact .v (by assumption)
    · cases h

section
variable {P : Program} {E : Ent} {s : St} {bl : List Nat} {π : Nat → Nat → Prop} {om : Loc → Option Nat} {a : Act} {w : World}

theorem Rel.arg (h : Rel E s bl π om a w) {x : Operand} {y : Arg} (ha : argOf x = some y) : VRel w bl π (s.arg y) (a.eval x) := by
  cases x with
  | tmp t => cases ha; exact (h.tm t).1.strip
  | const v =>
    simp only [argOf, Option.map_eq_some_iff] at ha
    obtain ⟨p, hp, rfl⟩ := ha
    exact constRel hp
  | global g => cases ha
  | func f => cases ha; exact .clo rfl (fun i z u hz => by simp at hz)

theorem constPV_own {v : Value} {p : PV} (h : constPV v = some p) : NoOwn p := by
  unfold constPV at h
  split at h
  · cases h; exact .of (fun xs e => by cases e; rfl)
  · split at h
    · cases h; exact .of (fun xs e => by cases e)
    · cases h

theorem arg_own {x : Operand} {y : Arg} (ha : argOf x = some y) : NoOwn (s.arg y) := by
  cases x with
  | tmp t => cases ha; exact PV.strip_ne _
  | const v =>
    simp only [argOf, Option.map_eq_some_iff] at ha
    obtain ⟨p, hp, rfl⟩ := ha
    exact constPV_own hp
  | global g => cases ha
  | func f => cases ha; exact .of (fun xs e => by cases e)

/-- What an operation hands back that turns nothing. -/
def Gives (P : Program) (E : Ent) (s : St) (bl : List Nat) (π : Nat → Nat → Prop) (a : Act) (w : World) (o : Oper) (p : PV) : Prop :=
  ∃ v, (execOp a.eval o).run P w = .ok (.value v) w ∧ LRel w bl π s.H none p v

theorem gives_copy (h : Rel E s bl π om a w) {o : Oper} {x : Operand} {y : Arg} (ho : o.op = .move x ∨ o.op = .assign x) (ha : argOf x = some y) :
    Gives P E s bl π a w o (s.arg y) := by
  refine ⟨a.eval x, ?_, .plain (h.arg ha) (arg_own ha)⟩
  rcases ho with ho | ho <;> simp [execOp, ho]

theorem gives_pick (h : Rel E s bl π om a w) {o : Oper} {c x y : Operand} {c' x' y' : Arg} {t : Bool} (ho : o.op = .pick c x y) (hc : argOf c = some c') (hx : argOf x = some x') (hy : argOf y = some y')
    (ht : s.arg c' = .v (.bool t)) : Gives P E s bl π a w o (if t then s.arg x' else s.arg y') := by
  have h1 := h.arg hc
  rw [ht] at h1
  generalize hv : a.eval c = v at h1
  cases h1
  refine ⟨if t then a.eval x else a.eval y, by simp [execOp, ho, hv, asBool], ?_⟩
  cases t
  · exact .plain (h.arg hy) (arg_own hy)
  · exact .plain (h.arg hx) (arg_own hx)

/-! ### Loads -/

theorem cellsAt_spec {cs l : List PV} {off k : Nat} (h : cellsAt cs off k = some l) : l.length = k ∧ off + k ≤ cs.length ∧ ∀ i, i < k → l[i]? = cs[off + i]? := by
  unfold cellsAt at h
  split at h
  · rename_i hle
    cases h
    refine ⟨by simp; omega, hle, fun i hi => ?_⟩
    simp [List.getElem?_drop, hi]
  · cases h

/-- A row of cells that tells a list. -/
theorem load_cells {b off : Nat} {cs l : List PV} {k : Nat} (hl : cellsAt cs off k = some l) {base : Nat}
    (hc : ∀ (i : Nat) (z : PV), cs[i]? = some z → ∃ u, w.cell? ⟨b, base + i, none⟩ = some u ∧ VRel w bl π z u) :
    ∃ vs : List Value, vs.length = k ∧ (∀ i, i < k → w.cell? ⟨b, base + off + i, none⟩ = vs[i]?) ∧
      ∀ (i : Nat) (z : PV) (u : Value), l[i]? = some z → vs[i]? = some u → VRel w bl π z u := by
  obtain ⟨h1, h2, h3⟩ := cellsAt_spec hl
  have key : ∀ n, n ≤ k → ∃ vs : List Value, vs.length = n ∧ (∀ i, i < n → w.cell? ⟨b, base + off + i, none⟩ = vs[i]?) ∧
      ∀ (i : Nat) (z : PV) (u : Value), l[i]? = some z → vs[i]? = some u → VRel w bl π z u := by
    intro n
    induction n with
    | zero => exact fun _ => ⟨[], rfl, fun i hi => absurd hi (by omega), fun i z u _ hu => by simp at hu⟩
    | succ n ih =>
      intro hn
      obtain ⟨vs, g1, g2, g3⟩ := ih (by omega)
      obtain ⟨z, hz⟩ : ∃ z, l[n]? = some z := ⟨_, List.getElem?_eq_getElem (by omega)⟩
      have hz' := h3 n (by omega)
      rw [hz] at hz'
      obtain ⟨u, hu, hr⟩ := hc (off + n) z hz'.symm
      refine ⟨vs ++ [u], by simp [g1], ?_, ?_⟩
      · intro i hi
        by_cases e : i < n
        · rw [g2 i e, List.getElem?_append_left (by omega)]
        · have : i = n := by omega
          subst this
          rw [show base + off + i = base + (off + i) by omega, hu, ← g1]
          simp
      · intro i z' u' hz' hu'
        by_cases e : i < n
        · rw [List.getElem?_append_left (by omega)] at hu'
          exact g3 i z' u' hz' hu'
        · have : i = n := by
            have := (List.getElem?_eq_some_iff.1 hu').1
            simp at this
            omega
          subst this
          rename_i hzz
          rw [hz] at hzz
          cases hzz
          simp [g1] at hu'
          subst hu'
          exact hr
  exact key k (Nat.le_refl _)

theorem sizeAgg_spec {t : TypeId} {k : Nat} {g : Bool} (h : sizeAgg P t = some (k, g)) :
    ∃ i d, P.info? t = some i ∧ i.size = k ∧ P.underlying t = some d ∧ g = aggD d ∧ (g = false → k = 1) := by
  unfold sizeAgg aggT at h
  split at h
  · rename_i i g' hi hg
    simp only [Option.map_eq_some_iff] at hg
    obtain ⟨d, hd, rfl⟩ := hg
    split at h
    · rename_i hk
      simp at h
      obtain ⟨rfl, rfl⟩ := h
      exact ⟨i, d, hi, rfl, hd, rfl, fun hf => by rw [hf] at hk; simpa using hk⟩
    · cases h
  · cases h

theorem run_isAgg {t : TypeId} {k : Nat} {g : Bool} (h : sizeAgg P t = some (k, g)) (w : World) : (isAgg t).run P w = .ok g w := by
  obtain ⟨i, d, hi, _, hd, rfl, _⟩ := sizeAgg_spec h
  simp only [isAgg, Sem.run_bind, run_underlying hd, Result.andThen_ok]
  cases d <;> rfl

theorem run_sizeOf' {t : TypeId} {k : Nat} {g : Bool} (h : sizeAgg P t = some (k, g)) (w : World) : (sizeOf t).run P w = .ok k w := by
  obtain ⟨i, d, hi, rfl, hd, _, _⟩ := sizeAgg_spec h
  simp [sizeOf, typeInfo, hi]

/-- A variable's load, where its cells tell a list. -/
theorem run_loadVar {t : TypeId} {k : Nat} {g : Bool} (h : sizeAgg P t = some (k, g)) {b o : Nat} {vs : List Value} (hl : vs.length = k) (hc : ∀ i, i < k → w.cell? ⟨b, o + i, none⟩ = vs[i]?) :
    ∃ v, (loadVar t ⟨b, o, none⟩).run P w = .ok v w ∧ (if g then v = .agg vs.toArray else vs = [v]) := by
  cases g with
  | true =>
    have := run_loadCells_list (P := P) w ⟨b, o, none⟩ vs (fun j v hj => by
      rw [addr_add, hc j (by have := (List.getElem?_eq_some_iff.1 hj).1; omega), hj])
    rw [hl] at this
    exact ⟨.agg vs.toArray, by simp [loadVar, run_isAgg h, run_sizeOf' h, this], rfl⟩
  | false =>
    obtain ⟨_, _, _, _, _, _, h1⟩ := sizeAgg_spec h
    have hk := h1 rfl
    subst hk
    match vs, hl with
    | [v], _ =>
      have := hc 0 (by omega)
      exact ⟨v, by simp [loadVar, run_isAgg h]; rw [show (⟨b, o, none⟩ : Addr) = ⟨b, o + 0, none⟩ from rfl, this]; rfl, rfl⟩

theorem mkAgg_rel {g : Bool} {l : List PV} {p : PV} {vs : List Value} {v : Value} (hp : mkAgg g (l.map PV.strip) = some p) (hl : vs.length = l.length)
    (hr : ∀ (i : Nat) (z : PV) (u : Value), l[i]? = some z → vs[i]? = some u → VRel w bl π z u) (hv : if g then v = .agg vs.toArray else vs = [v]) :
    VRel w bl π p v ∧ NoOwn p := by
  cases g with
  | true =>
    simp [mkAgg] at hp hv
    subst hp
    subst hv
    refine ⟨.agg (by simp [hl]) (fun i z u hz hu => ?_), .of fun xs e => by cases e⟩
    simp at hz hu
    obtain ⟨z', hz', rfl⟩ := hz
    exact (hr i z' u hz' hu).strip
  | false =>
    simp at hv
    subst hv
    match l, hl with
    | [z], _ =>
      simp [mkAgg] at hp
      subst hp
      exact ⟨(hr 0 z v rfl rfl).strip, PV.strip_ne _⟩

theorem gives_load (h : Rel E s bl π om a w) {o : Oper} {t : TypeId} {x : Operand} {y : Arg} {k : Nat} {g : Bool} {p : PV} (ho : o.op = .load t x) (ha : argOf x = some y) (hk : sizeAgg P t = some (k, g))
    (hp : loadPV s.H (s.arg y) k g = some p) : Gives P E s bl π a w o p := by
  have h1 := h.arg ha
  generalize s.arg y = q at h1 hp
  have fin : ∀ {b off base : Nat} {cs : List PV}, a.eval x = .pointer (some ⟨b, base + off, none⟩) → (cellsAt cs off k).bind (fun l => mkAgg g (l.map PV.strip)) = some p →
      (∀ (i : Nat) (z : PV), cs[i]? = some z → ∃ u, w.cell? ⟨b, base + i, none⟩ = some u ∧ VRel w bl π z u) → Gives P E s bl π a w o p := by
    intro b off base cs hx hb hc
    simp only [Option.bind_eq_some_iff] at hb
    obtain ⟨l, hl, hm⟩ := hb
    obtain ⟨vs, g1, g2, g3⟩ := load_cells hl hc
    obtain ⟨v, hr, hv⟩ := run_loadVar (w := w) hk g1 g2
    obtain ⟨r1, r2⟩ := mkAgg_rel hm (by rw [g1, (cellsAt_spec hl).1]) g3 hv
    exact ⟨v, by simp [execOp, ho, Instr.loadAt, hx, Instr.sureAddr, hr], .plain r1 r2⟩
  unfold loadPV at hp
  split at hp
  · rename_i id off
    simp only [Option.bind_eq_some_iff] at hp
    obtain ⟨cs, hcs, hp⟩ := hp
    generalize hv : a.eval x = v at h1
    cases h1 with
    | ptr hb =>
      rename_i b
      unfold objCells at hcs
      split at hcs
      · rename_i cs' hH
        cases hcs
        obtain ⟨arr, t', e1, e2, e3⟩ := h.ob id _ b hH hb
        refine fin (b := b) (off := off) (base := 0) (cs := cs) (by rw [hv]; simp) (by simpa only [Option.bind_eq_some_iff] using hp) (fun i z hz => ?_)
        have hi : i < arr.size := by rw [e2]; exact (List.getElem?_eq_some_iff.1 hz).1
        refine ⟨arr[i], by simp [World.cell?, e1, hi], (e3 i z _ hz (by simp [hi])).1⟩
      · cases hcs
  · rename_i cs off
    generalize hv : a.eval x = v at h1
    cases h1 with
    | ept cv hc hr =>
      rename_i b base
      exact fin hv hp (fun i z hz => ⟨cv i, kell_cell (hc i (List.getElem?_eq_some_iff.1 hz).1).2, hr i z hz⟩)
  · cases hp

end
end Go.Pi
/- More operations that only reckon and read. -/
namespace Go.Pi
open Go.RowKit

section
variable {P : Program} {E : Ent} {s : St} {bl : List Nat} {π : Nat → Nat → Prop} {om : Loc → Option Nat} {a : Act} {w : World}

theorem VRel.int {p : PV} {k : IntKind} {n : Int} {v : Value} (h : VRel w bl π p v) (e : p = .v (.int k n)) : v = .int k n := by
  subst e; cases h; rfl
theorem VRel.bool {p : PV} {t : Bool} {v : Value} (h : VRel w bl π p v) (e : p = .v (.bool t)) : v = .bool t := by
  subst e; cases h; rfl
theorem VRel.string {p : PV} {t : ByteArray} {v : Value} (h : VRel w bl π p v) (e : p = .v (.string t)) : v = .string t := by
  subst e; cases h; rfl

theorem plain_v {H : List PObj} {ob : Option Nat} {x : Value} (h : plainV x = true) : LRel w bl π H ob (.v x) x := .plain (.v h) (.of fun _ e => by cases e)

theorem gives_nilck (h : Rel E s bl π om a w) {o : Oper} {x : Operand} {y : Arg} {p : PV} (ho : o.op = .nilCheck x) (ha : argOf x = some y)
    (hp : (PO.nilck y).val s = some p) : Gives P E s bl π a w o p := by
  have h1 := h.arg ha
  simp only [PO.val] at hp
  generalize s.arg y = q at h1 hp
  generalize hv : a.eval x = v at h1
  cases q <;> simp at hp <;> subst hp <;> cases h1
  · rename_i b hb
    exact ⟨_, by simp [execOp, ho, hv], .plain (.ptr hb) (.of fun _ e => by cases e)⟩
  · rename_i b base cv hc hr
    exact ⟨_, by simp [execOp, ho, hv], .plain (.ept cv hc hr) (.of fun _ e => by cases e)⟩
  · rename_i vs hl hr
    exact ⟨_, by simp [execOp, ho, hv], .plain (.clo hl hr) (.of fun _ e => by cases e)⟩

theorem run_fieldAt {t : TypeId} {fs : Array Field} {f : Nat} {fd : Field} {i : TypeInfo} (hu : P.underlying t = some (.struct fs)) (hf : fs[f]? = some fd) (hi : P.info? fd.type = some i) (hz : i.size ≠ 0) (b o : Nat) :
    (Instr.fieldAt t (.pointer (some ⟨b, o, none⟩)) f).run P w = .ok (.pointer (some ⟨b, o + fd.offset, none⟩)) w := by
  simp [Instr.fieldAt, run_underlying hu, hf, Instr.sureAddr, fieldPlace, sizeOf, typeInfo, hi, hz, addr_add]

theorem gives_padd (h : Rel E s bl π om a w) {o : Oper} {t : TypeId} {fs : Array Field} {f : Nat} {fd : Field} {i : TypeInfo} {x : Operand} {y : Arg} {p : PV} (ho : o.op = .fieldAddr t x f) (ha : argOf x = some y)
    (hu : P.underlying t = some (.struct fs)) (hf : fs[f]? = some fd) (hi : P.info? fd.type = some i) (hz : i.size ≠ 0)
    (hp : (PO.padd y fd.offset).val s = some p) : Gives P E s bl π a w o p := by
  have h1 := h.arg ha
  simp only [PO.val] at hp
  generalize s.arg y = q at h1 hp
  generalize hv : a.eval x = v at h1
  cases q <;> simp at hp <;> subst hp <;> cases h1
  · rename_i b hb
    exact ⟨_, by simp only [execOp, ho, hv, Sem.run_bind, run_fieldAt hu hf hi hz, Result.andThen_ok, Sem.run_pure], .plain (.ptr hb) (.of fun _ e => by cases e)⟩
  · rename_i b base cv hc hr
    refine ⟨_, by simp only [execOp, ho, hv, Sem.run_bind, run_fieldAt hu hf hi hz, Result.andThen_ok, Sem.run_pure]; rfl, .plain ?_ (.of fun _ e => by cases e)⟩
    rw [Nat.add_assoc]
    exact .ept cv hc hr

theorem gives_pidxA (h : Rel E s bl π om a w) {o : Oper} {t e : TypeId} {n : Nat} {j : TypeInfo} {x i : Operand} {y z : Arg} {p : PV} (ho : o.op = .indexAddr t x i) (ha : argOf x = some y) (hb : argOf i = some z)
    (hu : P.underlying t = some (.array n e)) (hi : P.info? e = some j)
    (hp : (PO.pidxA y z n j.size).val s = some p) : Gives P E s bl π a w o p := by
  have h1 := h.arg ha
  have h2 := h.arg hb
  simp only [PO.val] at hp
  generalize s.arg y = q at h1 hp
  generalize s.arg z = q2 at h2 hp
  generalize hv : a.eval x = v at h1
  generalize hv2 : a.eval i = v2 at h2
  split at hp
  · rename_i id off k c
    have e2 := h2.int rfl
    subst e2
    split at hp
    · rename_i hc
      cases hp
      cases h1 with
      | ptr hb' =>
        refine ⟨_, ?_, .plain (.ptr hb') (.of fun _ e => by cases e)⟩
        simp [execOp, ho, hv, hv2, Instr.indexAt, asIntOf, run_underlying hu, Instr.sureAddr, sizeOf, typeInfo, hi, hc, addr_add]
    · cases hp
  · rename_i cs off k c
    have e2 := h2.int rfl
    subst e2
    split at hp
    · rename_i hc
      cases hp
      cases h1 with
      | ept cv hc' hr =>
        refine ⟨_, ?_, .plain (.ept cv hc' hr) (.of fun _ e => by cases e)⟩
        simp [execOp, ho, hv, hv2, Instr.indexAt, asIntOf, run_underlying hu, Instr.sureAddr, sizeOf, typeInfo, hi, hc, addr_add, Nat.add_assoc]
    · cases hp
  · cases hp

theorem gives_pidxS (h : Rel E s bl π om a w) {o : Oper} {t e : TypeId} {j : TypeInfo} {x i : Operand} {y z : Arg} {p : PV} (ho : o.op = .indexAddr t x i) (ha : argOf x = some y) (hb : argOf i = some z)
    (hu : P.underlying t = some (.slice e)) (hi : P.info? e = some j)
    (hp : (PO.pidxS y z j.size).val s = some p) : Gives P E s bl π a w o p := by
  have h1 := h.arg ha
  have h2 := h.arg hb
  simp only [PO.val] at hp
  generalize s.arg y = q at h1 hp
  generalize s.arg z = q2 at h2 hp
  generalize hv : a.eval x = v at h1
  generalize hv2 : a.eval i = v2 at h2
  split at hp
  · rename_i ow xs k c
    have e2 := h2.int rfl
    subst e2
    split at hp
    · rename_i hc
      simp only [Option.bind_eq_some_iff] at hp
      obtain ⟨el, hel, hp⟩ := hp
      split at hp
      · rename_i hk
        cases hp
        have hlt := (List.getElem?_eq_some_iff.1 hel).1
        cases h1 with
        | slc0 _ => simp at hlt
        | slc cv hne hcap hk' hc' hr =>
          rename_i b off cap k'
          have hkk : k' = j.size := by rw [← hk]; exact (hk' el (List.mem_of_getElem? hel)).symm
          subst hkk
          have hc2 : c < (xs.length : Int) := by omega
          refine ⟨.pointer (some ⟨b, off + c.toNat * j.size + 0, none⟩), ?_, .plain (.ept (fun i => cv c.toNat i) (fun i hi' => ?_) (fun i z hz' => hr c.toNat i el z hel hz')) (.of fun _ e => by cases e)⟩
          · simp [execOp, ho, hv, hv2, Instr.indexAt, asIntOf, run_underlying hu, sizeOf, typeInfo, hi, hc, hc2, addr_add]
          · exact hc' c.toNat i hlt (by rw [hk] at hi'; exact hi')
      · cases hp
    · cases hp
  · rename_i id off n cap k c
    have e2 := h2.int rfl
    subst e2
    split at hp
    · rename_i hc
      cases hp
      cases h1 with
      | hsl hb' =>
        refine ⟨_, ?_, .plain (.ptr hb') (.of fun _ e => by cases e)⟩
        simp [execOp, ho, hv, hv2, Instr.indexAt, asIntOf, run_underlying hu, sizeOf, typeInfo, hi, hc, addr_add]
    · cases hp
  · cases hp

theorem run_part {t : TypeId} {k : Nat} {g : Bool} (h : sizeAgg P t = some (k, g)) {cs : List PV} {vs : Array Value} {off : Nat} {l : List PV} {p : PV}
    (hl : vs.size = cs.length) (hr : ∀ (i : Nat) (z : PV) (u : Value), cs[i]? = some z → vs[i]? = some u → VRel w bl π z u)
    (hc : cellsAt cs off k = some l) (hm : mkAgg g (l.map PV.strip) = some p) :
    ∃ v, (part t vs off).run P w = .ok v w ∧ VRel w bl π p v ∧ NoOwn p := by
  obtain ⟨c1, c2, c3⟩ := cellsAt_spec hc
  have rel : ∀ (i : Nat) (z : PV) (u : Value), l[i]? = some z → (vs.toList.extract off (off + k))[i]? = some u → VRel w bl π z u := by
    intro i z u hz hu
    have hi : i < k := by rw [← c1]; exact (List.getElem?_eq_some_iff.1 hz).1
    rw [c3 i hi] at hz
    refine hr (off + i) z u hz ?_
    simpa [List.extract_eq_take_drop, hi] using hu
  have len : (vs.toList.extract off (off + k)).length = l.length := by
    simp [List.extract_eq_take_drop, c1]
    omega
  cases g with
  | true =>
    obtain ⟨r1, r2⟩ := mkAgg_rel (v := .agg (vs.toList.extract off (off + k)).toArray) hm len rel rfl
    refine ⟨_, ?_, r1, r2⟩
    simp [part, run_isAgg h, run_sizeOf' h]
    apply Array.ext'
    simp [List.extract_eq_take_drop]
  | false =>
    obtain ⟨_, _, _, _, _, _, h1⟩ := sizeAgg_spec h
    have hk := h1 rfl
    subst hk
    have hlt : off < vs.size := by omega
    have e : vs.toList.extract off (off + 1) = [vs[off]] := by
      simp [List.extract_eq_take_drop, List.drop_eq_getElem_cons (show off < vs.toList.length by simpa using hlt)]
    obtain ⟨r1, r2⟩ := mkAgg_rel (v := vs[off]) hm len rel (by simpa using e)
    refine ⟨_, ?_, r1, r2⟩
    simp [part, run_isAgg h, hlt]

theorem gives_fld (h : Rel E s bl π om a w) {o : Oper} {t : TypeId} {fs : Array Field} {f : Nat} {fd : Field} {k : Nat} {g : Bool} {x : Operand} {y : Arg} {p : PV} (ho : o.op = .field t x f) (ha : argOf x = some y)
    (hu : P.underlying t = some (.struct fs)) (hf : fs[f]? = some fd) (hk : sizeAgg P fd.type = some (k, g))
    (hp : (PO.fld y fd.offset k g).val s = some p) : Gives P E s bl π a w o p := by
  have h1 := h.arg ha
  simp only [PO.val] at hp
  generalize s.arg y = q at h1 hp
  generalize hv : a.eval x = v at h1
  split at hp
  · simp only [Option.bind_eq_some_iff] at hp
    obtain ⟨l, hl, hm⟩ := hp
    cases h1 with
    | agg hs hr =>
      obtain ⟨v, r1, r2, r3⟩ := run_part (w := w) hk hs hr hl hm
      exact ⟨v, by simp [execOp, ho, hv, Instr.field, run_underlying hu, hf, asAgg, r1], .plain r2 r3⟩
  · cases hp

theorem gives_idx (h : Rel E s bl π om a w) {o : Oper} {t e : TypeId} {n : Nat} {k : Nat} {g : Bool} {x i : Operand} {y z : Arg} {p : PV} (ho : o.op = .index t x i) (ha : argOf x = some y) (hb : argOf i = some z)
    (hu : P.underlying t = some (.array n e)) (hk : sizeAgg P e = some (k, g))
    (hp : (PO.idx y z n k g).val s = some p) : Gives P E s bl π a w o p := by
  have h1 := h.arg ha
  have h2 := h.arg hb
  simp only [PO.val] at hp
  generalize s.arg y = q at h1 hp
  generalize s.arg z = q2 at h2 hp
  generalize hv : a.eval x = v at h1
  generalize hv2 : a.eval i = v2 at h2
  split at hp
  · have e2 := h2.int rfl
    subst e2
    split at hp
    · rename_i hc
      simp only [Option.bind_eq_some_iff] at hp
      obtain ⟨l, hl, hm⟩ := hp
      cases h1 with
      | agg hs hr =>
        obtain ⟨v, r1, r2, r3⟩ := run_part (w := w) hk hs hr hl hm
        exact ⟨v, by simp [execOp, ho, hv, hv2, Instr.index, asIntOf, run_underlying hu, hc, run_sizeOf' hk, r1], .plain r2 r3⟩
    · cases hp
  · cases hp

theorem gives_byteAt (h : Rel E s bl π om a w) {o : Oper} {t : TypeId} {x i : Operand} {y z : Arg} {p : PV} (ho : o.op = .index t x i) (ha : argOf x = some y) (hb : argOf i = some z)
    (hu : P.underlying t = some .string) (hp : (PO.byteAt y z).val s = some p) : Gives P E s bl π a w o p := by
  have h1 := h.arg ha
  have h2 := h.arg hb
  simp only [PO.val] at hp
  generalize s.arg y = q at h1 hp
  generalize s.arg z = q2 at h2 hp
  generalize hv : a.eval x = v at h1
  generalize hv2 : a.eval i = v2 at h2
  split at hp
  · have e2 := h2.int rfl
    have e1 := h1.string rfl
    subst e2
    subst e1
    split at hp
    · rename_i hc
      simp only [Option.map_eq_some_iff] at hp
      obtain ⟨c, hc', rfl⟩ := hp
      exact ⟨_, by simp [execOp, ho, hv, hv2, Instr.index, asIntOf, run_underlying hu, hc, hc'], plain_v rfl⟩
    · cases hp
  · cases hp

theorem gives_ext (h : Rel E s bl π om a w) {o : Oper} {x : Operand} {y : Arg} {i : Nat} {p : PV} (ho : o.op = .extract x i) (ha : argOf x = some y)
    (hp : (PO.ext y i).val s = some p) : Gives P E s bl π a w o p := by
  have h1 := h.arg ha
  simp only [PO.val] at hp
  generalize s.arg y = q at h1 hp
  generalize hv : a.eval x = v at h1
  split at hp
  · simp only [Option.map_eq_some_iff] at hp
    obtain ⟨z, hz, rfl⟩ := hp
    cases h1 with
    | tup hs hr =>
      rename_i l vs
      have hi : i < vs.size := by rw [hs]; exact (List.getElem?_eq_some_iff.1 hz).1
      exact ⟨vs[i], by simp [execOp, ho, hv, Instr.extract, hi], .plain (hr i z _ hz (by simp [hi])).strip (PV.strip_ne _)⟩
  · cases hp

theorem gives_conv (h : Rel E s bl π om a w) {o : Oper} {sT dT : TypeId} {k' k : IntKind} {x : Operand} {y : Arg} {p : PV} (ho : o.op = .convert sT dT x) (ha : argOf x = some y)
    (h1' : P.underlying sT = some (.int k')) (h2' : P.underlying dT = some (.int k)) (hp : (PO.conv k y).val s = some p) : Gives P E s bl π a w o p := by
  have h1 := h.arg ha
  simp only [PO.val] at hp
  generalize s.arg y = q at h1 hp
  generalize hv : a.eval x = v at h1
  split at hp
  · have e1 := h1.int rfl
    subst e1
    cases hp
    exact ⟨_, by simp [execOp, ho, hv, convert, run_underlying h1', run_underlying h2', Conv.intToInt], plain_v rfl⟩
  · cases hp

theorem gives_convStr (h : Rel E s bl π om a w) {o : Oper} {sT dT : TypeId} {x : Operand} {y : Arg} (ho : o.op = .convert sT dT x) (ha : argOf x = some y)
    (h1' : P.underlying sT = some .string) (h2' : P.underlying dT = some .string) (b : ByteArray) (hp : s.arg y = .v (.string b)) : Gives P E s bl π a w o (s.arg y) := by
  have h1 := h.arg ha
  have e1 := h1.string hp
  exact ⟨.string b, by simp [execOp, ho, e1, convert, run_underlying h1', run_underlying h2'], by rw [hp]; exact plain_v rfl⟩

theorem gives_mkclo (h : Rel E s bl π om a w) {o : Oper} {f : Nat} {first cap : Array Operand} {l : List Arg} (ho : o.op = .makeFunc (.func f) first cap) (hf : first.isEmpty = true) (hl : optArgs cap.toList = some l) :
    Gives P E s bl π a w o (.clo f (l.map s.arg)) := by
  have hlist : ∀ (xs : List Operand) (ys : List Arg), optArgs xs = some ys → xs.length = ys.length ∧ ∀ (i : Nat) (z : PV) (u : Value), (ys.map s.arg)[i]? = some z → (xs.map a.eval)[i]? = some u → VRel w bl π z u := by
    intro xs
    induction xs with
    | nil => intro ys hy; simp [optArgs] at hy; subst hy; exact ⟨rfl, fun i z u hz => by simp at hz⟩
    | cons x xs ih =>
      intro ys hy
      simp only [optArgs, List.mapM_cons] at hy
      simp only [Option.bind_eq_bind, Option.bind_eq_some_iff, Option.pure_def, Option.some.injEq] at hy
      obtain ⟨y, hy1, ys', hy2, rfl⟩ := hy
      obtain ⟨i1, i2⟩ := ih ys' hy2
      refine ⟨by simp [i1], ?_⟩
      intro i z u hz hu
      cases i with
      | zero => simp at hz hu; subst hz; subst hu; exact h.arg hy1
      | succ i => simp only [List.map_cons, List.getElem?_cons_succ] at hz hu; exact i2 i z u hz hu
  obtain ⟨l1, l2⟩ := hlist _ _ hl
  have hf' : first = #[] := by simpa using hf
  refine ⟨.func (.func f) #[] (cap.map a.eval), by simp [execOp, ho, Instr.makeFunc, hf'], .plain (.clo (by simp; simpa using l1) (fun i z u hz hu => l2 i z u hz (by simpa using hu))) (.of fun _ e => by cases e)⟩

end
end Go.Pi
/- Comparing, building, slicing. -/
namespace Go.Pi
open Go.RowKit

/-! ### Comparing values cell by cell -/

def sameVs : List Nat → List Value → List Value → Option Bool
  | [], [], [] => some true
  | k :: ks, a :: xs, b :: ys => (sameV k a b).bind fun p => (sameVs ks xs ys).map fun q => p && q
  | _, _, _ => none

theorem sameVs_len : ∀ {ks : List Nat} {xs ys : List Value} {b : Bool}, sameVs ks xs ys = some b → xs.length = ks.length ∧ ys.length = ks.length
  | [], [], [], _, _ => ⟨rfl, rfl⟩
  | k :: ks, a :: xs, c :: ys, b, h => by
    simp only [sameVs, Option.bind_eq_some_iff, Option.map_eq_some_iff] at h
    obtain ⟨p, _, q, hq, _⟩ := h
    have := sameVs_len hq
    simp [this]
  | [], [], _ :: _, _, h => by simp [sameVs] at h
  | [], _ :: _, _, _, h => by simp [sameVs] at h
  | _ :: _, [], _, _, h => by simp [sameVs] at h
  | _ :: _, _ :: _, [], _, h => by simp [sameVs] at h

theorem sameVs_append : ∀ {ks ks' : List Nat} {xs ys : List Value} {b : Bool}, sameVs (ks ++ ks') xs ys = some b →
    ∃ p q, sameVs ks (xs.take ks.length) (ys.take ks.length) = some p ∧ sameVs ks' (xs.drop ks.length) (ys.drop ks.length) = some q ∧ b = (p && q)
  | [], ks', xs, ys, b, h => ⟨true, b, rfl, by simpa using h, by simp⟩
  | k :: ks, ks', xs, ys, b, h => by
    match xs, ys with
    | [], ys => simp [sameVs] at h
    | x :: xs, [] => simp [sameVs] at h
    | x :: xs, y :: ys =>
      simp only [List.cons_append, sameVs, Option.bind_eq_some_iff, Option.map_eq_some_iff] at h
      obtain ⟨p, hp, r, hr, rfl⟩ := h
      obtain ⟨p', q', h1, h2, rfl⟩ := sameVs_append hr
      exact ⟨p && p', q', by simp [sameVs, hp, h1], by simpa using h2, by simp [Bool.and_assoc]⟩

theorem eqCells_vals : ∀ {ks : List Nat} {xs ys : List PV} {b : Bool}, eqCells ks xs ys = some b →
    ∃ us vs, xs = us.map .v ∧ ys = vs.map .v ∧ sameVs ks us vs = some b
  | [], [], [], b, h => by simp [eqCells] at h; subst h; exact ⟨[], [], rfl, rfl, rfl⟩
  | k :: ks, x :: xs, y :: ys, b, h => by
    cases x <;> cases y <;> simp only [eqCells, reduceCtorEq] at h
    rename_i u v
    simp only [Option.bind_eq_some_iff, Option.map_eq_some_iff] at h
    obtain ⟨p, hp, q, hq, rfl⟩ := h
    obtain ⟨us, vs, rfl, rfl, h3⟩ := eqCells_vals hq
    exact ⟨u :: us, v :: vs, rfl, rfl, by simp [sameVs, hp, h3]⟩
  | [], [], _ :: _, _, h => by simp [eqCells] at h
  | [], _ :: _, _, _, h => by simp [eqCells] at h
  | _ :: _, [], _, _, h => by simp [eqCells] at h
  | _ :: _, x :: _, [], _, h => by cases x <;> simp [eqCells] at h

/-- A value of a type out of its cells. -/
def ofCells (P : Program) (t : TypeId) (xs : List Value) : Value :=
  match P.underlying t with
  | some d => if aggD d then .agg xs.toArray else xs.headD undef
  | none => undef

section
variable {P : Program} {w : World}

theorem flatTy_info {d : Nat} {t : TypeId} {ks : List Nat} (h : flatTy P d t = some ks) : ∃ i u, P.info? t = some i ∧ P.underlying t = some u ∧ sizeAgg P t = some (ks.length, aggD u) ∧ P.cellsOf t = ks.length := by
  cases d with
  | zero => simp [flatTy] at h
  | succ d =>
    unfold flatTy at h
    cases hi : P.info? t with
    | none => simp [hi] at h
    | some i =>
      simp only [hi] at h
      cases hu : P.underlying t with
      | none => simp [hu] at h
      | some u =>
        refine ⟨i, u, rfl, rfl, ?_⟩
        have hc : P.cellsOf t = i.size := by simp [Program.cellsOf, hi]
        simp only [hu] at h
        cases u <;> simp [Option.bind_eq_some_iff] at h
        · obtain ⟨h1, rfl⟩ := h; simp [sizeAgg, aggT, aggD, hi, hu, h1, hc]
        · obtain ⟨h1, rfl⟩ := h; simp [sizeAgg, aggT, aggD, hi, hu, h1, hc]
        · obtain ⟨h1, rfl⟩ := h; simp [sizeAgg, aggT, aggD, hi, hu, h1, hc]
        · obtain ⟨_, ks', _, h3, rfl⟩ := h
          simp [sizeAgg, aggT, aggD, hi, hu, hc, ← h3, List.length_flatten]
        · obtain ⟨_, h3⟩ := h
          simp [sizeAgg, aggT, aggD, hi, hu, hc, h3]

theorem run_part_of {t : TypeId} {k : Nat} {d : TypeDesc} (hd : P.underlying t = some d) (h : sizeAgg P t = some (k, aggD d)) (xs : Array Value) (off : Nat) (hl : off + k ≤ xs.size) (w : World) :
    (part t xs off).run P w = .ok (ofCells P t ((xs.toList.drop off).take k)) w := by
  obtain ⟨_, _, _, _, hd', _, h1⟩ := sizeAgg_spec h
  unfold ofCells
  simp only [hd]
  by_cases hg : aggD d = true
  · rw [hg] at h
    simp only [hg, if_true, part, Sem.run_bind, run_isAgg h, run_sizeOf' h, Result.andThen_ok, Sem.run_pure]
    congr 2
    apply Array.ext'
    simp [List.extract_eq_take_drop]
  · have hg' : aggD d = false := by simpa using hg
    rw [hg'] at h
    have hk := h1 hg'
    subst hk
    have hlt : off < xs.size := by omega
    simp [part, run_isAgg h, hlt, hg', List.drop_eq_getElem_cons (show off < xs.toList.length by simpa using hlt)]

theorem flat_eq : ∀ (d : Nat) (t : TypeId) (ks : List Nat), flatTy P d t = some ks → ∀ (D : Nat), d ≤ D → ∀ (xs ys : List Value) (b : Bool), sameVs ks xs ys = some b → ∀ w : World,
    (Op.equalIn D t (ofCells P t xs) (ofCells P t ys)).run P w = .ok b w
  | 0, t, ks, h => by simp [flatTy] at h
  | d + 1, t, ks, h => by
    intro D hD xs ys b hs w
    obtain ⟨D, rfl⟩ : ∃ D', D = D' + 1 := ⟨D - 1, by omega⟩
    have hD' : d ≤ D := by omega
    obtain ⟨hx, hy⟩ := sameVs_len hs
    obtain ⟨i, u, hi, hu, hsz, hc'⟩ := flatTy_info h
    have hc : P.cellsOf t = i.size := by simp [Program.cellsOf, hi]
    unfold flatTy at h
    simp only [hi, hu] at h
    have scalar : ∀ q, ks = [q] → aggD u = false → ∃ x y, ofCells P t xs = x ∧ ofCells P t ys = y ∧ sameV q x y = some b := by
      intro q hq hg
      subst hq
      match xs, ys, hx, hy with
      | [x], [y], _, _ =>
        simp [sameVs] at hs
        exact ⟨x, y, by simp [ofCells, hu, hg], by simp [ofCells, hu, hg], hs⟩
    cases u with
    | bool =>
      simp at h
      obtain ⟨x, y, e1, e2, e3⟩ := scalar 0 h.2.symm rfl
      rw [e1, e2]
      cases x <;> cases y <;> simp [sameV] at e3
      subst e3; exact run_equalIn_bool' w D t _ _ hu
    | int q =>
      simp at h
      obtain ⟨x, y, e1, e2, e3⟩ := scalar 1 h.2.symm rfl
      rw [e1, e2]
      cases x <;> cases y <;> simp [sameV] at e3
      obtain ⟨rfl, rfl⟩ := e3; exact run_equalIn_int w D t _ _ _ _ hu
    | string =>
      simp at h
      obtain ⟨x, y, e1, e2, e3⟩ := scalar 2 h.2.symm rfl
      rw [e1, e2]
      cases x <;> cases y <;> simp [sameV] at e3
      subst e3; simp [Op.equalIn, run_underlying hu]
    | struct fs =>
      simp only [Bool.and_eq_true, Bool.not_eq_true', Option.ite_none_right_eq_some, Option.bind_eq_some_iff, beq_iff_eq] at h
      obtain ⟨⟨h1, _⟩, ks', h2, h3⟩ := h
      have hks : ks' = ks ∧ ks'.length = i.size := ⟨Option.some.inj h3.2, h3.1⟩
      obtain ⟨rfl, h3⟩ := hks
      have hfo : P.fieldsOf t = fs := by simp [Program.fieldsOf, hu]
      have e1 : ofCells P t xs = .agg xs.toArray := by simp [ofCells, hu, aggD]
      have e2 : ofCells P t ys = .agg ys.toArray := by simp [ofCells, hu, aggD]
      rw [e1, e2, run_equalIn_struct w D t _ _ (by rw [hfo]; exact hu) h1, hfo]
      have go : ∀ (l : List Field) (n : Nat) (qs : List Nat) (b : Bool), flatFields (flatTy P d) n l = some qs → n + qs.length = xs.length →
          sameVs qs (xs.drop n) (ys.drop n) = some b → (Op.eqFields D xs.toArray ys.toArray l).run P w = .ok b w := by
        intro l
        induction l with
        | nil =>
          intro n qs b hf _ hb
          simp [flatFields] at hf
          subst hf
          obtain ⟨l1, l2⟩ := sameVs_len hb
          simp only [List.length_nil, List.length_eq_zero_iff] at l1 l2
          rw [l1, l2] at hb
          simp [sameVs] at hb
          subst hb
          simp [Op.eqFields]
        | cons f l ih =>
          intro n qs b hf hn hb
          simp only [flatFields, Bool.and_eq_true, bne_iff_ne, ne_eq, beq_iff_eq, Option.ite_none_right_eq_some, Option.bind_eq_some_iff, Option.map_eq_some_iff] at hf
          obtain ⟨⟨hnm, hoff⟩, k1, hk1, k2, hk2, rfl⟩ := hf
          obtain ⟨fi, fu, hfi, hfu, hfs, _⟩ := flatTy_info hk1
          obtain ⟨p, q, hp, hq, rfl⟩ := sameVs_append hb
          have hlen := sameVs_len hb
          simp only [List.length_append, List.length_drop] at hn hlen
          have p1 := run_part_of hfu hfs xs.toArray n (by simp; omega) w
          have p2 := run_part_of hfu hfs ys.toArray n (by simp; omega) w
          have hcmp := flat_eq d f.type k1 hk1 D hD' _ _ p hp w
          rw [List.drop_drop, List.drop_drop] at hq
          have hrest := ih (n + k1.length) k2 q hk2 (by omega) hq
          simp only [Op.eqFields, hnm, ne_eq, not_false_eq_true, if_true, Sem.run_bind, hoff, p1, p2, hcmp, Result.andThen_ok]
          cases p
          · simp
          · simpa using hrest
      exact go fs.toList 0 ks' b h2 (by omega) (by simpa using hs)
    | array n e =>
      simp only [Bool.not_eq_true', Option.ite_none_right_eq_some, Option.bind_eq_some_iff] at h
      obtain ⟨_, ke, h2, h3⟩ := h
      have hks : (List.replicate n ke).flatten = ks ∧ n * ke.length = i.size := ⟨Option.some.inj h3.2, by simpa using h3.1⟩
      obtain ⟨rfl, h3⟩ := hks
      have e1 : ofCells P t xs = .agg xs.toArray := by simp [ofCells, hu, aggD]
      have e2 : ofCells P t ys = .agg ys.toArray := by simp [ofCells, hu, aggD]
      obtain ⟨ei, eu, hei, heu, hes, hec⟩ := flatTy_info h2
      rw [e1, e2, run_equalIn_array w D _ _ hu hei, hec]
      have go : ∀ (m j : Nat) (b : Bool), j + m = n → sameVs (List.replicate m ke).flatten (xs.drop (j * ke.length)) (ys.drop (j * ke.length)) = some b →
          (Op.eqItems D e ke.length xs.toArray ys.toArray (List.range' j m)).run P w = .ok b w := by
        intro m
        induction m with
        | zero =>
          intro j b hj hb
          obtain ⟨l1, l2⟩ := sameVs_len hb
          simp only [List.replicate_zero, List.flatten_nil, List.length_nil, List.length_eq_zero_iff] at l1 l2
          rw [l1, l2] at hb
          simp [sameVs] at hb
          subst hb
          simp [Op.eqItems]
        | succ m ih =>
          intro j b hj hb
          rw [List.replicate_succ, List.flatten_cons] at hb
          obtain ⟨p, q, hp, hq, rfl⟩ := sameVs_append hb
          have hlen := sameVs_len hb
          simp only [List.length_append, List.length_drop] at hlen
          by_cases hz : ke.length = 0
          · -- no cells
            have hke : ke = [] := List.length_eq_zero_iff.1 hz
            have p1 := run_part_of heu hes xs.toArray (j * ke.length) (by simp [hz]) w
            have p2 := run_part_of heu hes ys.toArray (j * ke.length) (by simp [hz]) w
            have hcmp := flat_eq d e ke h2 D hD' _ _ p hp w
            rw [List.drop_drop, List.drop_drop, ← Nat.add_one_mul] at hq
            have hrest := ih (j + 1) q (by omega) hq
            simp only [List.range'_succ, Op.eqItems, Sem.run_bind, p1, p2, hcmp, Result.andThen_ok]
            cases p
            · simp
            · simpa using hrest
          · have p1 := run_part_of heu hes xs.toArray (j * ke.length) (by simp; omega) w
            have p2 := run_part_of heu hes ys.toArray (j * ke.length) (by simp; omega) w
            have hcmp := flat_eq d e ke h2 D hD' _ _ p hp w
            rw [List.drop_drop, List.drop_drop, ← Nat.add_one_mul] at hq
            have hrest := ih (j + 1) q (by omega) hq
            simp only [List.range'_succ, Op.eqItems, Sem.run_bind, p1, p2, hcmp, Result.andThen_ok]
            cases p
            · simp
            · simpa using hrest
      rw [List.range_eq_range']
      exact go n 0 b (by omega) (by simpa using hs)
    | _ => simp at h

end
end Go.Pi
/- The rest of the operations that only reckon and read. -/
namespace Go.Pi
open Go.RowKit

section
variable {P : Program} {E : Ent} {s : St} {bl : List Nat} {π : Nat → Nat → Prop} {om : Loc → Option Nat} {a : Act} {w : World}

theorem VRel.aggVals {us : List Value} {v : Value} (h : VRel w bl π (.agg (us.map .v)) v) : v = .agg us.toArray := by
  cases h with
  | agg hl hr =>
    rename_i vs
    congr 1
    apply Array.ext
    · simpa using hl
    · intro i h1 h2
      have := hr i (.v us[i]) vs[i] (by simp at h2; simp [h2]) (by simp [h1])
      generalize hx : vs[i] = x at this
      simp only [List.getElem_toArray]
      generalize us[i] = y at this
      cases this
      rfl

theorem gives_eqv (h : Rel E s bl π om a w) {o : Oper} {op : BinOp} (hop : op = .eql ∨ op = .neq) {t yt : TypeId} {ks : List Nat} {d : TypeDesc} {x y : Operand} {x' y' : Arg} {p : PV} (ho : o.op = .binOp op t x y yt) (ha : argOf x = some x') (hb : argOf y = some y')
    (hk : flatTy P 20 t = some ks) (hd : P.underlying t = some d) (hg : aggD d = true)
    (hp : (PO.eqv (isNeq op) ks x' y').val s = some p) : Gives P E s bl π a w o p := by
  have h1 := h.arg ha
  have h2 := h.arg hb
  simp only [PO.val] at hp
  generalize s.arg x' = q1 at h1 hp
  generalize s.arg y' = q2 at h2 hp
  split at hp
  · simp only [Option.map_eq_some_iff] at hp
    obtain ⟨b, hb', rfl⟩ := hp
    obtain ⟨us, vs, rfl, rfl, hs⟩ := eqCells_vals hb'
    have e1 := h1.aggVals
    have e2 := h2.aggVals
    have hcmp := fun w => flat_eq (P := P) 20 t ks hk 10000 (by omega) us vs b hs w
    have o1 : ofCells P t us = .agg us.toArray := by simp [ofCells, hd, hg]
    have o2 : ofCells P t vs = .agg vs.toArray := by simp [ofCells, hd, hg]
    rw [o1, o2] at hcmp
    have hgt : P.eqGuardType P.depth t = false := by
      obtain ⟨i, u, hi, hu, _, _⟩ := flatTy_info hk
      unfold flatTy at hk
      rw [hd] at hu
      cases hu
      simp only [hi, hd] at hk
      cases d <;> simp [aggD] at hg <;> simp at hk
      · exact hk.1
      · exact hk.1.2
    rcases hop with rfl | rfl
    · exact ⟨_, by simp only [execOp, ho, e1, e2, Sem.run_bind, run_eqGuard_agg w .eql t x y _ _ hgt, run_eql_struct w t, hcmp, Result.andThen_ok, Sem.run_pure]; rfl, plain_v rfl⟩
    · exact ⟨_, by simp only [execOp, ho, e1, e2, Sem.run_bind, run_eqGuard_agg w .neq t x y _ _ hgt, run_neq_struct w t, hcmp, Result.andThen_ok, Sem.run_pure]; rfl, plain_v rfl⟩
  · cases hp

theorem eqGuard_plain (op : BinOp) (t : TypeId) (x y : Operand) (u v : Value) (hu : (∃ k n, u = .int k n) ∨ (∃ b, u = .string b) ∨ (∃ b, u = .bool b) ∨ (∃ p, u = .pointer p) ∨ (∃ p, u = .map p) ∨ u = .nilFunc ∨ ∃ f a b, u = .func f a b) (w : World) :
    (eqGuard op t x y u v).run P w = .ok () w := by
  rcases hu with ⟨k, n, rfl⟩ | ⟨b, rfl⟩ | ⟨b, rfl⟩ | ⟨b, rfl⟩ | ⟨b, rfl⟩ | rfl | ⟨f, a, b, rfl⟩ <;> cases op <;> simp [eqGuard]

theorem gives_eqb (h : Rel E s bl π om a w) {o : Oper} {op : BinOp} (hop : op = .eql ∨ op = .neq) {t yt : TypeId} {x y : Operand} {x' y' : Arg} {p : PV} (ho : o.op = .binOp op t x y yt) (ha : argOf x = some x') (hb : argOf y = some y')
    (hd : P.underlying t = some .bool)
    (hp : (PO.eqb (isNeq op) x' y').val s = some p) : Gives P E s bl π a w o p := by
  have h1 := h.arg ha
  have h2 := h.arg hb
  simp only [PO.val] at hp
  generalize s.arg x' = q1 at h1 hp
  generalize s.arg y' = q2 at h2 hp
  split at hp
  · rename_i b c
    have e1 := h1.bool rfl
    have e2 := h2.bool rfl
    cases hp
    rcases hop with rfl | rfl
    · exact ⟨.bool (b == c), by simp [execOp, ho, e1, e2, eqGuard_plain, binOp, run_equal_bool w t _ _ hd], plain_v rfl⟩
    · exact ⟨.bool (!(b == c)), by simp [execOp, ho, e1, e2, eqGuard_plain, binOp, run_equal_bool w t _ _ hd], plain_v rfl⟩
  · cases hp

theorem run_bop {op : BinOp} {k : IntKind} {a b : Int} {v : Value} (hop : isShift op = false) (h : bopV op k a b = some v) (t : TypeId) (w : World) : (binOp op t (.int k a) (.int k b)).run P w = .ok v w ∧ plainV v = true := by
  cases op
  case quo =>
    simp only [bopV] at h
    split at h
    · cases h
    · cases h; simp [binOp, Op.intDiv, plainV, *]
  case rem =>
    simp only [bopV] at h
    split at h
    · cases h
    · cases h; simp [binOp, Op.intDiv, plainV, *]
  all_goals (first | (simp [isShift] at hop; done) | (simp [bopV] at h; done) | (simp only [bopV, Option.some.injEq] at h; subst h; simp [binOp, Op.intArith, Op.intBits, Op.intCmp, plainV]))

theorem run_shiftV {op : BinOp} {k k' : IntKind} {a b : Int} {v : Value} (h : shiftV op k a b = some v) (t : TypeId) (w : World) : (binOp op t (.int k a) (.int k' b)).run P w = .ok v w ∧ plainV v = true := by
  unfold shiftV at h
  split at h
  · cases h
  · rename_i hb
    cases op <;> simp at h <;> subst h <;> simp [binOp, Op.shift, hb, plainV]

theorem run_strV {op : BinOp} {a b : ByteArray} {v : Value} (h : strV op a b = some v) (t : TypeId) (w : World) : (binOp op t (.string a) (.string b)).run P w = .ok v w ∧ plainV v = true := by
  cases op
  case add =>
    simp only [strV] at h
    split at h
    · cases h
    · rename_i hz
      cases h
      refine ⟨?_, rfl⟩
      simp only [binOp, Op.stringOp]
      rw [if_neg hz]
      rfl
  all_goals simp [strV] at h
  all_goals (subst h; exact ⟨by simp [binOp, Op.stringOp], rfl⟩)

theorem gives_bin (h : Rel E s bl π om a w) {o : Oper} {op : BinOp} {t yt : TypeId} {x y : Operand} {x' y' : Arg} {p : PV} (ho : o.op = .binOp op t x y yt) (ha : argOf x = some x') (hb : argOf y = some y')
    (hp : (PO.bin op x' y').val s = some p) : Gives P E s bl π a w o p := by
  have h1 := h.arg ha
  have h2 := h.arg hb
  simp only [PO.val] at hp
  generalize s.arg x' = q1 at h1 hp
  generalize s.arg y' = q2 at h2 hp
  unfold binPV at hp
  split at hp
  · rename_i k c k' d
    have e1 := h1.int rfl
    have e2 := h2.int rfl
    simp only [Option.map_eq_some_iff] at hp
    obtain ⟨v, hv, rfl⟩ := hp
    have hr : (binOp op t (.int k c) (.int k' d)).run P w = .ok v w ∧ plainV v = true := by
      split at hv
      · exact run_shiftV hv t w
      · rename_i hop
        split at hv
        · rename_i hk
          subst hk
          exact run_bop (by simpa using hop) hv t w
        · cases hv
    exact ⟨v, by simp [execOp, ho, e1, e2, eqGuard_plain, hr.1], plain_v hr.2⟩
  · rename_i c d
    have e1 := h1.string rfl
    have e2 := h2.string rfl
    simp only [Option.map_eq_some_iff] at hp
    obtain ⟨v, hv, rfl⟩ := hp
    obtain ⟨hr, hpl⟩ := run_strV (P := P) hv t w
    exact ⟨v, by simp [execOp, ho, e1, e2, eqGuard_plain, hr], plain_v hpl⟩
  · cases hp

theorem gives_un (h : Rel E s bl π om a w) {o : Oper} {op : UnOp} {t : TypeId} {x : Operand} {x' : Arg} {p : PV} (ho : o.op = .unOp op t x) (ha : argOf x = some x')
    (hp : (PO.un op x').val s = some p) : Gives P E s bl π a w o p := by
  have h1 := h.arg ha
  simp only [PO.val] at hp
  generalize s.arg x' = q1 at h1 hp
  unfold unPV at hp
  split at hp
  · have e1 := h1.bool rfl
    cases hp
    exact ⟨_, by simp [execOp, ho, e1, Op.unary], plain_v rfl⟩
  · have e1 := h1.int rfl
    simp [bopV] at hp
    subst hp
    exact ⟨_, by simp [execOp, ho, e1, Op.unary, Op.intArith], plain_v rfl⟩
  · have e1 := h1.int rfl
    simp [bopV] at hp
    subst hp
    exact ⟨_, by simp [execOp, ho, e1, Op.unary, Op.intBits], plain_v rfl⟩
  · cases hp

theorem isNil_ptr {p : PV} {v : Value} {b : Bool} (h : VRel w bl π p v) (hn : isNil 0 p = some b) : ∃ q, v = .pointer q ∧ q.isNone = b := by
  cases h <;> simp [isNil] at hn <;> (try subst hn) <;> (try exact ⟨_, rfl, rfl⟩)
  rename_i hp
  cases v <;> simp_all [plainV]
  rename_i q
  cases q <;> simp_all

theorem isNil_map {p : PV} {v : Value} {b : Bool} (h : VRel w bl π p v) (hn : isNil 1 p = some b) : ∃ q, v = .map q ∧ q.isNone = b := by
  cases h <;> simp [isNil] at hn <;> (try subst hn) <;> (try exact ⟨_, rfl, rfl⟩)
  rename_i hp
  cases v <;> simp_all [plainV]
  rename_i q
  cases q <;> simp_all

theorem isNil_func {p : PV} {v : Value} {b : Bool} (h : VRel w bl π p v) (hn : isNil 2 p = some b) : (v = .nilFunc ∧ b = true) ∨ (∃ f x y, v = .func f x y ∧ b = false) := by
  cases h <;> simp [isNil] at hn <;> (try subst hn) <;> (try exact .inr ⟨_, _, _, rfl, rfl⟩)
  rename_i hp
  cases v <;> simp_all [plainV]

theorem eqIn_ptr0 {t e : TypeId} (d : Nat) (hd : P.underlying t = some (.pointer e)) (y : Option Addr) (w : World) : (Op.equalIn (d + 1) t (.pointer none) (.pointer y)).run P w = .ok y.isNone w := by
  simp [Op.equalIn, run_underlying hd]
theorem eqIn_ptr1 {t e : TypeId} (d : Nat) (hd : P.underlying t = some (.pointer e)) (x : Addr) (w : World) : (Op.equalIn (d + 1) t (.pointer (some x)) (.pointer none)).run P w = .ok false w := by
  simp [Op.equalIn, run_underlying hd]
theorem eqIn_map0 {t k e : TypeId} (d : Nat) (hd : P.underlying t = some (.map k e)) (y : Option Nat) (w : World) : (Op.equalIn (d + 1) t (.map none) (.map y)).run P w = .ok y.isNone w := by
  simp [Op.equalIn, run_underlying hd]
theorem eqIn_map1 {t k e : TypeId} (d : Nat) (hd : P.underlying t = some (.map k e)) (x : Nat) (w : World) : (Op.equalIn (d + 1) t (.map (some x)) (.map none)).run P w = .ok false w := by
  simp [Op.equalIn, run_underlying hd]
theorem eqIn_fun0 {t : TypeId} {u v : Array TypeId} {z : Bool} (d : Nat) (hd : P.underlying t = some (.func u v z)) (w : World) : (Op.equalIn (d + 1) t .nilFunc .nilFunc).run P w = .ok true w := by
  simp [Op.equalIn, run_underlying hd]
theorem eqIn_fun1 {t : TypeId} {u v : Array TypeId} {z : Bool} (d : Nat) (hd : P.underlying t = some (.func u v z)) (f : Fn) (a b : Array Value) (w : World) : (Op.equalIn (d + 1) t .nilFunc (.func f a b)).run P w = .ok false w := by
  simp [Op.equalIn, run_underlying hd]
theorem eqIn_fun2 {t : TypeId} {u v : Array TypeId} {z : Bool} (d : Nat) (hd : P.underlying t = some (.func u v z)) (f : Fn) (a b : Array Value) (w : World) : (Op.equalIn (d + 1) t (.func f a b) .nilFunc).run P w = .ok false w := by
  simp [Op.equalIn, run_underlying hd]

theorem run_eqNil {t : TypeId} {d : TypeDesc} (hd : P.underlying t = some d) {kd : Nat} (hk : (kd = 0 ∧ ∃ e, d = .pointer e) ∨ (kd = 1 ∧ ∃ k e, d = .map k e) ∨ (kd = 2 ∧ ∃ x y z, d = .func x y z)) {p q : PV} {u v : Value} {b : Bool}
    (hu : VRel w bl π p u) (hv : VRel w bl π q v) (hb : eqpPV kd p q = some b) (w' : World) : (Op.equal t u v).run P w' = .ok b w' ∧ ((∃ x, u = .pointer x ∧ ∃ y, v = .pointer y) ∨ (∃ x, u = .map x ∧ ∃ y, v = .map y) ∨ (u = .nilFunc ∨ ∃ x y z, u = .func x y z) ∧ (v = .nilFunc ∨ ∃ x y z, v = .func x y z)) := by
  unfold eqpPV at hb
  rcases hk with ⟨rfl, e, rfl⟩ | ⟨rfl, k, e, rfl⟩ | ⟨rfl, x, y, z, rfl⟩
  · split at hb
    · rename_i c h1 h2
      cases hb
      obtain ⟨x, rfl, hx⟩ := isNil_ptr hu h1
      obtain ⟨y, rfl, rfl⟩ := isNil_ptr hv h2
      cases x <;> simp at hx
      exact ⟨eqIn_ptr0 9999 hd _ _, .inl ⟨_, rfl, _, rfl⟩⟩
    · rename_i h1 h2
      cases hb
      obtain ⟨x, rfl, hx⟩ := isNil_ptr hu h1
      obtain ⟨y, rfl, hy⟩ := isNil_ptr hv h2
      cases x <;> simp at hx
      cases y <;> simp at hy
      exact ⟨eqIn_ptr1 9999 hd _ _, .inl ⟨_, rfl, _, rfl⟩⟩
    · cases hb
  · split at hb
    · rename_i c h1 h2
      cases hb
      obtain ⟨x, rfl, hx⟩ := isNil_map hu h1
      obtain ⟨y, rfl, rfl⟩ := isNil_map hv h2
      cases x <;> simp at hx
      exact ⟨eqIn_map0 9999 hd _ _, .inr (.inl ⟨_, rfl, _, rfl⟩)⟩
    · rename_i h1 h2
      cases hb
      obtain ⟨x, rfl, hx⟩ := isNil_map hu h1
      obtain ⟨y, rfl, hy⟩ := isNil_map hv h2
      cases x <;> simp at hx
      cases y <;> simp at hy
      exact ⟨eqIn_map1 9999 hd _ _, .inr (.inl ⟨_, rfl, _, rfl⟩)⟩
    · cases hb
  · split at hb
    · rename_i c h1 h2
      cases hb
      rcases isNil_func hu h1 with ⟨rfl, _⟩ | ⟨f, x', y', rfl, hx⟩
      · rcases isNil_func hv h2 with ⟨rfl, rfl⟩ | ⟨f, x', y', rfl, rfl⟩
        · exact ⟨eqIn_fun0 9999 hd _, .inr (.inr ⟨.inl rfl, .inl rfl⟩)⟩
        · exact ⟨eqIn_fun1 9999 hd _ _ _ _, .inr (.inr ⟨.inl rfl, .inr ⟨_, _, _, rfl⟩⟩)⟩
      · cases hx
    · rename_i h1 h2
      cases hb
      rcases isNil_func hu h1 with ⟨rfl, hx⟩ | ⟨f, x', y', rfl, hx⟩
      · cases hx
      · rcases isNil_func hv h2 with ⟨rfl, _⟩ | ⟨f, x', y', rfl, hy⟩
        · exact ⟨eqIn_fun2 9999 hd _ _ _ _, .inr (.inr ⟨.inr ⟨_, _, _, rfl⟩, .inl rfl⟩)⟩
        · cases hy
    · cases hb

theorem gives_eqp (h : Rel E s bl π om a w) {o : Oper} {op : BinOp} (hop : op = .eql ∨ op = .neq) {t yt : TypeId} {kd : Nat} {d : TypeDesc} {x y : Operand} {x' y' : Arg} {p : PV} (ho : o.op = .binOp op t x y yt) (ha : argOf x = some x') (hb : argOf y = some y')
    (hd : P.underlying t = some d) (hk : (kd = 0 ∧ ∃ e, d = .pointer e) ∨ (kd = 1 ∧ ∃ k e, d = .map k e) ∨ (kd = 2 ∧ ∃ x y z, d = .func x y z))
    (hp : (PO.eqp (isNeq op) kd x' y').val s = some p) : Gives P E s bl π a w o p := by
  have h1 := h.arg ha
  have h2 := h.arg hb
  simp only [PO.val, Option.map_eq_some_iff] at hp
  obtain ⟨b, hb', rfl⟩ := hp
  obtain ⟨hr, hsh⟩ := run_eqNil (P := P) hd hk h1 h2 hb' w
  refine ⟨.bool (if isNeq op then !b else b), ?_, plain_v rfl⟩
  have hg : (eqGuard op t x y (a.eval x) (a.eval y)).run P w = .ok () w := by
    refine eqGuard_plain op t x y _ _ ?_ w
    rcases hsh with ⟨u, e, _⟩ | ⟨u, e, _⟩ | ⟨e | ⟨f, u, v, e⟩, _⟩ <;> rw [e] <;> simp
  have hbin : (binOp op t (a.eval x) (a.eval y)).run P w = .ok (.bool (if isNeq op then !b else b)) w := by
    rcases hsh with ⟨u, e, v, e'⟩ | ⟨u, e, v, e'⟩ | ⟨e | ⟨f, u, v, e⟩, e' | ⟨f', u', v', e'⟩⟩ <;> rw [e, e'] at hr ⊢ <;> rcases hop with rfl | rfl <;> simp [binOp, hr, isNeq]
  simp [execOp, ho, hg, hbin]

end
end Go.Pi
