import Derived.Test.YtcmkgbboldchbaaGreatDoorA3
import Derived.RangeFuncRecord
set_option linter.unusedSimpArgs false
set_option linter.unusedVariables false
/- What operations look at and what they turn; which may change places. -/
namespace Go.Pi

section
variable {s s' s1 : St}

theorem arg_congr {y : Arg} (h : ∀ t ∈ y.reads, s'.t t = s.t t) : s'.arg y = s.arg y := by
  cases y with
  | t n => simp [St.arg, h n (by simp [Arg.reads])]
  | c p => rfl

theorem boundOf_congr {y d : Nat} {lo : Option Arg} (h : ∀ a ∈ lo.toList, s'.arg a = s.arg a) : boundOf s' y d lo = boundOf s y d lo := by
  cases lo with
  | none => rfl
  | some a => simp [boundOf, h a (by simp)]

theorem buildPV_congr : ∀ (ps : List (Nat × Nat × Arg)) (cs : List PV), (∀ p ∈ ps, s'.arg p.2.2 = s.arg p.2.2) → buildPV s' cs ps = buildPV s cs ps
  | [], _, _ => rfl
  | (off, k, x) :: ps, cs, h => by
    have hx := h (off, k, x) (by simp)
    simp only [buildPV] at hx ⊢
    rw [hx]
    split
    · congr 1
      funext cs'
      exact buildPV_congr ps cs' (fun p hp => h p (by simp [hp]))
    · rfl

theorem foldlM_congr {isMax : Bool} : ∀ (xs : List Arg) (p : PV), (∀ a ∈ xs, s'.arg a = s.arg a) → xs.foldlM (fun p a => mm2 isMax p (s'.arg a)) p = xs.foldlM (fun p a => mm2 isMax p (s.arg a)) p
  | [], _, _ => rfl
  | x :: xs, p, h => by
    simp only [List.foldlM_cons, h x (by simp)]
    congr 1
    funext q
    exact foldlM_congr xs q (fun a ha => h a (by simp [ha]))

theorem map_arg_congr {xs : List Arg} (h : ∀ a ∈ xs, s'.arg a = s.arg a) : xs.map s'.arg = xs.map s.arg := List.map_congr_left h

theorem val_congr {o : PO} (h : ∀ y ∈ o.args, s'.arg y = s.arg y) (hH : o.hc = .pure ∨ s'.H = s.H) : o.val s' = o.val s := by
  cases o <;> simp only [PO.args, List.mem_cons, List.not_mem_nil, or_false, forall_eq_or_imp, forall_eq, List.mem_append, List.mem_map] at h <;> simp only [PO.val]
  case copy x => rw [h]
  case pick c a b => rw [h.1, h.2.1, h.2.2]
  case load p k g => rw [h, hH.resolve_left (by simp [PO.hc])]
  case nilck x => rw [h]
  case padd p n => rw [h]
  case pidxA p i n k => rw [h.1, h.2]
  case pidxS p i k => rw [h.1, h.2]
  case fld x o k g => rw [h]
  case idx x i n k g => rw [h.1, h.2]
  case byteAt x i => rw [h.1, h.2]
  case build z ps => rw [buildPV_congr ps _ (fun p hp => h _ ⟨p, hp, rfl⟩)]
  case slice x lo hi mx k =>
    have hx := h x (.inl (.inl (.inl rfl)))
    have h1 := fun y d => boundOf_congr (s := s) (s' := s') (y := y) (d := d) (lo := lo) (fun a ha => h a (.inl (.inl (.inr ha))))
    have h2 := fun y d => boundOf_congr (s := s) (s' := s') (y := y) (d := d) (lo := hi) (fun a ha => h a (.inl (.inr ha)))
    have h3 := fun y d => boundOf_congr (s := s) (s' := s') (y := y) (d := d) (lo := mx) (fun a ha => h a (.inr ha))
    rw [hx]
    simp only [h1, h2, h3]
  case sslice x lo hi =>
    have hx := h x (.inl (.inl rfl))
    have h1 := fun y d => boundOf_congr (s := s) (s' := s') (y := y) (d := d) (lo := lo) (fun a ha => h a (.inl (.inr ha)))
    have h2 := fun y d => boundOf_congr (s := s) (s' := s') (y := y) (d := d) (lo := hi) (fun a ha => h a (.inr ha))
    rw [hx]
    simp only [h1, h2]
  case loadE x k g => rw [h]
  case boxF x => rw [h]
  case tobytes x => rw [h]
  case mlen x => rw [h, hH.resolve_left (by simp [PO.hc])]
  case lookup ks z ok m k => rw [h.1, h.2, hH.resolve_left (by simp [PO.hc])]
  case mcur x => rw [h, hH.resolve_left (by simp [PO.hc])]
  case len x => rw [h]
  case slen x => rw [h]
  case bin op x y => rw [h.1, h.2]
  case eqv neg ks x y => rw [h.1, h.2]
  case eqb neg x y => rw [h.1, h.2]
  case eqp neg kd x y => rw [h.1, h.2]
  case un op x => rw [h]
  case conv k x => rw [h]
  case strcp x => rw [h]
  case ext x i => rw [h]
  case mkclo f cap => rw [map_arg_congr h]
  case mm isMax xs =>
    cases xs with
    | nil => rfl
    | cons x rest =>
      simp only
      rw [h x (by simp), foldlM_congr rest _ (fun a ha => h a (by simp [ha]))]

theorem set_t {d : Option Nat} {p : PV} (t : Nat) : (s.set d p).t t = if t ∈ d.toList then p else s.t t := by
  cases d with
  | none => simp [St.set]
  | some n => simp [St.set, upd]

theorem set_H {d : Option Nat} {p : PV} : (s.set d p).H = s.H := by cases d <;> rfl

theorem St.ext' {s s' : St} (h1 : ∀ t, s.t t = s'.t t) (h2 : s.H = s'.H) : s = s' := by
  cases s; cases s'; simp at h1 h2; subst h2; congr; exact funext h1

/-- Slots that an operation turns. -/
def PO.turns (o : PO) (d : Option Nat) : List Nat := d.toList ++ o.strips

/-- An operation that is no call looks at what it looks at, and turns what it turns. -/
theorem step_congr {o : PO} {d : Option Nat} (hs : o.step d s = some s1) (ha : ∀ y ∈ o.args, ∀ t ∈ y.reads, s'.t t = s.t t) (hH : o.hc = .pure ∨ s'.H = s.H) :
    ∃ s1', o.step d s' = some s1' ∧ (∀ t, s1'.t t = if t ∈ o.turns d then s1.t t else s'.t t) ∧ (o.hc = .pure → s1'.H = s'.H) ∧ (s'.H = s.H → s1'.H = s1.H) := by
  have harg : ∀ y ∈ o.args, s'.arg y = s.arg y := fun y hy => arg_congr (ha y hy)
  by_cases hv : o.isVal = true
  · rw [step_val hv] at hs ⊢
    simp only [Option.map_eq_some_iff] at hs
    obtain ⟨p, hp, rfl⟩ := hs
    have hst : o.strips = [] := by cases o <;> first | rfl | (simp [PO.isVal] at hv)
    refine ⟨s'.set d p, by rw [val_congr harg hH, hp]; rfl, fun t => ?_, fun _ => set_H, fun e => by rw [set_H, set_H, e]⟩
    simp only [PO.turns, hst, List.append_nil, set_t]
    split <;> rfl
  · cases o <;> simp [PO.isVal] at hv
    case take x =>
      simp only [PO.step] at hs ⊢
      have hx := ha (.t x) (by simp [PO.args]) x (by simp [Arg.reads])
      split at hs
      · cases hs
      · rename_i hne
        cases hs
        rw [if_neg hne]
        refine ⟨_, rfl, fun t => ?_, fun _ => by rw [set_H], fun e => by simp [set_H, e]⟩
        simp only [PO.turns, PO.strips, set_t, List.mem_append, List.mem_singleton, hx]
        by_cases h1 : t ∈ d.toList
        · simp [h1]
        · by_cases h2 : t = x
          · subst h2; simp [h1, upd]
          · simp [h1, h2, upd]
    case alloc z =>
      have hH' := hH.resolve_left (by simp [PO.hc])
      simp only [PO.step] at hs ⊢
      cases hs
      refine ⟨_, rfl, fun t => ?_, fun e => by simp [PO.hc] at e, fun e => by simp [set_H, e]⟩
      simp only [PO.turns, PO.strips, List.append_nil, set_t, hH']
      split <;> rfl
    case box x =>
      have hH' := hH.resolve_left (by simp [PO.hc])
      have hx := harg x (by simp [PO.args])
      simp only [PO.step, hx] at hs ⊢
      split at hs
      · rename_i hst
        cases hs
        rw [if_pos hst]
        refine ⟨_, rfl, fun t => ?_, fun e => by simp [PO.hc] at e, fun e => by simp [set_H, e]⟩
        simp only [PO.turns, PO.strips, List.append_nil, set_t, hH']
        split <;> rfl
      · cases hs
    case loadT p =>
      have hH' := hH.resolve_left (by simp [PO.hc])
      have hx := harg p (by simp [PO.args])
      simp only [PO.step, hx, hH'] at hs ⊢
      split at hs
      · rename_i id off _
        simp only [Option.bind_eq_some_iff, Option.map_eq_some_iff] at hs
        obtain ⟨cs, hcs, x, hx', rfl⟩ := hs
        refine ⟨({ s' with H := s.H.set id (.cells (cs.set off x.strip)) } : St).set d x, by simp [hcs, hx'], fun t => ?_, fun e => by simp [PO.hc] at e, fun e => by simp [set_H]⟩
        simp only [PO.turns, PO.strips, List.append_nil, set_t]
        split <;> rfl
      · simp only [Option.map_eq_some_iff] at hs
        obtain ⟨x, hx', rfl⟩ := hs
        refine ⟨s'.set d x.strip, by simp [hx'], fun t => ?_, fun e => by simp [PO.hc] at e, fun _ => by simp [set_H, hH']⟩
        simp only [PO.turns, PO.strips, List.append_nil, set_t]
        split <;> rfl
      · cases hs
    case store p x k =>
      have hH' := hH.resolve_left (by simp [PO.hc])
      have hp := harg p (by simp [PO.args])
      have hx := harg x (by simp [PO.args])
      simp only [PO.step, hp, hx, hH', Option.map_eq_some_iff] at hs ⊢
      obtain ⟨H, hh, rfl⟩ := hs
      refine ⟨({ s' with H := H } : St).set d .junk, ⟨H, hh, rfl⟩, fun t => ?_, fun e => by simp [PO.hc] at e, fun e => by simp [set_H]⟩
      simp only [PO.turns, PO.strips, List.append_nil, set_t]
      split <;> rfl
    case storeT p x =>
      have hH' := hH.resolve_left (by simp [PO.hc])
      have hp := harg p (by simp [PO.args])
      have hx := ha (.t x) (by simp [PO.args]) x (by simp [Arg.reads])
      simp only [PO.step, hp, hx, hH'] at hs ⊢
      split at hs
      · rename_i id off e1 e2
        simp only [Option.bind_eq_some_iff] at hs
        obtain ⟨cs, hcs, hs⟩ := hs
        split at hs
        · rename_i hlt
          cases hs
          refine ⟨({ t := upd s'.t x (s.t x).strip, H := s.H.set id (.cells (cs.set off (s.t x))) } : St).set d .junk, by simp [hcs, hlt], fun t => ?_, fun e => by simp [PO.hc] at e, fun e => by simp [set_H]⟩
          simp only [PO.turns, PO.strips, set_t, List.mem_append, List.mem_singleton]
          by_cases h1 : t ∈ d.toList
          · simp [h1]
          · by_cases h2 : t = x
            · subst h2; simp [h1, upd]
            · simp [h1, h2, upd]
        · cases hs
      · cases hs
    case storeF p x k =>
      have hx := harg x (by simp [PO.args])
      have hp := ha (.t p) (by simp [PO.args]) p (by simp [Arg.reads])
      simp only [PO.step, hx, hp] at hs ⊢
      split at hs
      · rename_i n e1
        split at hs
        · rename_i hcond
          cases hs
          rw [if_pos hcond]
          refine ⟨_, rfl, fun t => ?_, fun e => by simp [set_H], fun e => by simp [set_H, e]⟩
          simp only [PO.turns, PO.strips, set_t, List.mem_append, List.mem_singleton]
          by_cases h1 : t ∈ d.toList
          · simp [h1]
          · by_cases h2 : t = p
            · subst h2; simp [h1, upd]
            · simp [h1, h2, upd]
        · cases hs
      · cases hs
    case mkmap =>
      have hH' := hH.resolve_left (by simp [PO.hc])
      simp only [PO.step] at hs ⊢
      cases hs
      refine ⟨_, rfl, fun t => ?_, fun e => by simp [PO.hc] at e, fun e => by simp [set_H, e]⟩
      simp only [PO.turns, PO.strips, List.append_nil, set_t, hH']
      split <;> rfl
    case mentry ks z m k =>
      have hH' := hH.resolve_left (by simp [PO.hc])
      have hm := harg m (by simp [PO.args])
      have hk := harg k (by simp [PO.args])
      simp only [PO.step, hm, hk, hH', Option.map_eq_some_iff] at hs ⊢
      obtain ⟨r, hr, rfl⟩ := hs
      refine ⟨({ s' with H := r.2 } : St).set d r.1, ⟨r, hr, rfl⟩, fun t => ?_, fun e => by simp [PO.hc] at e, fun e => by simp [set_H]⟩
      simp only [PO.turns, PO.strips, List.append_nil, set_t]
      split <;> rfl
    case mstore m st x =>
      have hH' := hH.resolve_left (by simp [PO.hc])
      have hm := harg m (by simp [PO.args])
      have hk := harg st (by simp [PO.args])
      have hx := harg x (by simp [PO.args])
      simp only [PO.step, hm, hk, hx, hH', Option.map_eq_some_iff] at hs ⊢
      obtain ⟨r, hr, rfl⟩ := hs
      refine ⟨({ s' with H := r } : St).set d .junk, ⟨r, hr, rfl⟩, fun t => ?_, fun e => by simp [PO.hc] at e, fun e => by simp [set_H]⟩
      simp only [PO.turns, PO.strips, List.append_nil, set_t]
      split <;> rfl
    case mupd ks m k x =>
      have hH' := hH.resolve_left (by simp [PO.hc])
      have hm := harg m (by simp [PO.args])
      have hk := harg k (by simp [PO.args])
      have hx := harg x (by simp [PO.args])
      simp only [PO.step, hm, hk, hx, hH', Option.map_eq_some_iff] at hs ⊢
      obtain ⟨r, hr, rfl⟩ := hs
      refine ⟨({ s' with H := r } : St).set d .junk, ⟨r, hr, rfl⟩, fun t => ?_, fun e => by simp [PO.hc] at e, fun e => by simp [set_H]⟩
      simp only [PO.turns, PO.strips, List.append_nil, set_t]
      split <;> rfl
    case mrange m =>
      have hH' := hH.resolve_left (by simp [PO.hc])
      have hm := harg m (by simp [PO.args])
      simp only [PO.step, hm, hH', Option.map_eq_some_iff] at hs ⊢
      obtain ⟨r, hr, rfl⟩ := hs
      refine ⟨({ s' with H := s.H ++ [r] } : St).set d (.ptr s.H.length 0), ⟨r, hr, rfl⟩, fun t => ?_, fun e => by simp [PO.hc] at e, fun e => by simp [set_H]⟩
      simp only [PO.turns, PO.strips, List.append_nil, set_t]
      split <;> rfl
    case mkslice z b l c =>
      have hH' := hH.resolve_left (by simp [PO.hc])
      have hl := harg l (by simp [PO.args])
      have hc := harg c (by simp [PO.args])
      simp only [PO.step, hl, hc, hH'] at hs ⊢
      split at hs
      · split at hs
        · rename_i hcond
          cases hs
          rw [if_pos hcond]
          refine ⟨_, rfl, fun t => ?_, fun e => by simp [PO.hc] at e, fun e => by simp [set_H]⟩
          simp only [PO.turns, PO.strips, List.append_nil, set_t]
          split <;> rfl
        · cases hs
      · cases hs
    case bslice k ps =>
      have hm := map_arg_congr (s := s) (s' := s') (xs := ps) (fun a ha' => harg a (by simpa [PO.args] using ha'))
      simp only [PO.step, hm] at hs ⊢
      split at hs
      · rename_i hall
        cases hs
        rw [if_pos hall]
        refine ⟨_, rfl, fun t => ?_, fun e => set_H, fun e => by simp [set_H, e]⟩
        simp only [PO.turns, PO.strips, List.append_nil, set_t]
        split <;> rfl
      · cases hs
    case append x y k bytes =>
      have hx := ha (.t x) (by simp [PO.args]) x (by simp [Arg.reads])
      have hy := harg y (by simp [PO.args])
      simp only [PO.step, hx, hy] at hs ⊢
      split at hs
      · rename_i xs ow ys e1 e2
        split at hs
        · rename_i hcond
          cases hs
          rw [if_pos hcond]
          refine ⟨_, rfl, fun t => ?_, fun e => by simp [set_H], fun e => by simp [set_H, e]⟩
          simp only [PO.turns, PO.strips, set_t, List.mem_append, List.mem_singleton]
          by_cases h1 : t ∈ d.toList
          · simp [h1]
          · by_cases h2 : t = x
            · subst h2; simp [h1, upd]
            · simp [h1, h2, upd]
        · cases hs
      · cases hs

theorem step_frame {o : PO} {d : Option Nat} (hs : o.step d s = some s1) : (∀ t, t ∉ o.turns d → s1.t t = s.t t) ∧ (o.hc = .pure → s1.H = s.H) := by
  obtain ⟨s1', h1, h2, h3, _⟩ := step_congr (s' := s) hs (fun _ _ _ _ => rfl) (.inr rfl)
  rw [hs] at h1
  cases h1
  exact ⟨fun t ht => by rw [h2 t, if_neg ht], h3⟩

end
end Go.Pi
/- Two operations that don't wait for each other change places. -/
namespace Go.Pi

/-- Is an operation to be carried out? -/
def POp.gd (o : POp) (s : St) : Option Bool :=
  match o.guard with
  | none => some true
  | some (t, b) => gdOf (s.t t) b

/-- The state behind an operation that is no call, or isn't carried out. -/
def POp.stepG (o : POp) (s : St) : Option St :=
  match o.gd s with
  | some true => if o.op.isCall then none else o.op.step o.dst s
  | some false => some (s.set o.dst skipped)
  | none => none

section
variable {C : Cx} {o q : POp} {K : St → Prop} {s s' s1 s2 : St}

theorem pwpOp_iff : pwpOp C o K s ↔ (o.gd s = some true ∧ pwpDo C o K s) ∨ (o.gd s = some false ∧ K (s.set o.dst skipped)) := by
  unfold pwpOp POp.gd
  cases o.guard with
  | none => simp
  | some tb =>
    obtain ⟨t, b⟩ := tb
    simp only
    constructor
    · rintro ⟨g, h1, h2, h3⟩
      rw [h1]
      cases g with
      | true => exact .inl ⟨rfl, h2 rfl⟩
      | false => exact .inr ⟨rfl, h3 rfl⟩
    · rintro (⟨h1, h2⟩ | ⟨h1, h2⟩)
      · exact ⟨true, h1, fun _ => h2, fun e => by cases e⟩
      · exact ⟨false, h1, fun e => absurd e (by simp), fun _ => h2⟩

theorem pwpDo_step (hc : o.op.isCall = false) : pwpDo C o K s ↔ ∃ s1, o.op.step o.dst s = some s1 ∧ K s1 := by
  unfold pwpDo
  split
  · rename_i e; rw [e] at hc; simp [PO.isCall] at hc
  · rename_i e; rw [e] at hc; simp [PO.isCall] at hc
  · rename_i e; rw [e] at hc; simp [PO.isCall] at hc
  · rename_i e; rw [e] at hc; simp [PO.isCall] at hc
  · exact Iff.rfl

/-- Where nothing is called. -/
theorem pwpOp_det (hc : o.op.isCall = false ∨ o.gd s = some false) : pwpOp C o K s ↔ ∃ s1, o.stepG s = some s1 ∧ K s1 := by
  rw [pwpOp_iff]
  unfold POp.stepG
  cases hg : o.gd s with
  | none => simp
  | some b =>
    cases b with
    | true =>
      have hc' := hc.resolve_right (by rw [hg]; simp)
      simp [hc', pwpDo_step hc']
    | false => simp

theorem gd_congr (h : ∀ t ∈ o.reads, s'.t t = s.t t) : o.gd s' = o.gd s := by
  unfold POp.gd
  cases hg : o.guard with
  | none => rfl
  | some tb =>
    obtain ⟨t, b⟩ := tb
    simp only
    rw [h t (by simp [POp.reads, hg])]

theorem strips_reads : ∀ t ∈ o.op.strips, t ∈ o.reads := by
  intro t ht
  unfold POp.reads
  refine List.mem_append_left _ ?_
  cases ho : o.op <;> rw [ho] at ht <;> simp [PO.strips] at ht <;> subst ht <;> simp [PO.args, Arg.reads]

theorem argReads (h : ∀ t ∈ o.reads, s'.t t = s.t t) : ∀ y ∈ o.op.args, ∀ t ∈ y.reads, s'.t t = s.t t :=
  fun y hy t ht => h t (by unfold POp.reads; exact List.mem_append_left _ (List.mem_flatMap.2 ⟨y, hy, ht⟩))

theorem args_congr {args : List Arg} (hargs : ∀ y ∈ args, y ∈ o.op.args) (h : ∀ t ∈ o.reads, s'.t t = s.t t) : args.map s'.arg = args.map s.arg :=
  map_arg_congr fun y hy => arg_congr (argReads h y (hargs y hy))

/-- It turns no object, and looks at none. -/
def POp.indep (o : POp) (s : St) : Prop := o.op.hc = .pure ∨ o.gd s = some false

theorem stepG_congr (hs : o.stepG s = some s1) (h : ∀ t ∈ o.reads, s'.t t = s.t t) (hH : o.indep s ∨ s'.H = s.H) :
    ∃ s1', o.stepG s' = some s1' ∧ (∀ t, s1'.t t = if t ∈ o.writes then s1.t t else s'.t t) ∧ (o.indep s → s1'.H = s'.H) ∧ (s'.H = s.H → s1'.H = s1.H) := by
  unfold POp.stepG at hs ⊢
  rw [gd_congr h]
  cases hg : o.gd s with
  | none => rw [hg] at hs; cases hs
  | some b =>
    rw [hg] at hs
    cases b with
    | true =>
      simp only at hs ⊢
      split at hs
      · cases hs
      · rename_i hc
        rw [if_neg hc]
        have hi : o.indep s ↔ o.op.hc = .pure := by unfold POp.indep; rw [hg]; simp
        rw [hi] at hH ⊢
        exact step_congr hs (argReads h) hH
    | false =>
      simp only [Option.some.injEq] at hs ⊢
      subst hs
      refine ⟨_, rfl, fun t => ?_, fun _ => set_H, fun e => by rw [set_H, set_H, e]⟩
      rw [set_t, set_t]
      unfold POp.writes
      by_cases h1 : t ∈ o.dst.toList
      · simp [h1]
      · by_cases h2 : t ∈ o.op.strips
        · simp [h1, h2, h t (strips_reads t h2)]
        · simp [h1, h2]

theorem stepG_frame (hs : o.stepG s = some s1) : (∀ t, t ∉ o.writes → s1.t t = s.t t) ∧ (o.indep s → s1.H = s.H) := by
  obtain ⟨s1', h1, h2, h3, _⟩ := stepG_congr (s' := s) hs (fun _ _ => rfl) (.inr rfl)
  rw [hs] at h1
  cases h1
  exact ⟨fun t ht => by rw [h2 t, if_neg ht], h3⟩

/-- Slots apart. -/
structure Apart (o q : POp) : Prop where
  wr : ∀ t ∈ o.writes, t ∉ q.reads
  ww : ∀ t ∈ o.writes, t ∉ q.writes
  rw : ∀ t ∈ q.writes, t ∉ o.reads

theorem dst_writes {t : Nat} (h : t ∈ o.dst.toList) : t ∈ o.writes := List.mem_append_left _ h

/-- Both go by steps, and one of them has nothing to do with objects. -/
theorem swap_det (ha : Apart o q) (h1 : o.stepG s = some s1) (h2 : q.stepG s1 = some s2) (hi : o.indep s ∨ q.indep s1) :
    ∃ s1', q.stepG s = some s1' ∧ o.stepG s1' = some s2 := by
  obtain ⟨f1, f2⟩ := stepG_frame h1
  obtain ⟨f3, f4⟩ := stepG_frame h2
  have agq : ∀ t ∈ q.reads, s.t t = s1.t t := fun t ht => (f1 t (fun hw => ha.wr t hw ht)).symm
  have gq : q.indep s1 ↔ q.indep s := by unfold POp.indep; rw [gd_congr agq]
  obtain ⟨s1', g1, g2, g3, g4⟩ := stepG_congr (s' := s) h2 agq (hi.symm.imp id (fun h => (f2 h).symm))
  have ago : ∀ t ∈ o.reads, s1'.t t = s.t t := fun t ht => by rw [g2 t, if_neg (fun hw => ha.rw t hw ht)]
  obtain ⟨s2', k1, k2, k3, k4⟩ := stepG_congr (s' := s1') h1 ago (by
    rcases hi with hi | hi
    · exact .inl hi
    · exact .inr (g3 hi))
  refine ⟨s1', g1, ?_⟩
  rw [k1]
  congr 1
  refine St.ext' (fun t => ?_) ?_
  · rw [k2 t]
    by_cases hw : t ∈ o.writes
    · rw [if_pos hw, f3 t (ha.ww t hw)]
    · rw [if_neg hw, g2 t]
      by_cases hq : t ∈ q.writes
      · rw [if_pos hq]
      · rw [if_neg hq, f3 t hq, f1 t hw]
  · rcases hi with hi | hi
    · rw [k3 hi, g4 (f2 hi).symm]
    · rw [k4 (g3 hi), f4 hi]

/-! ### Reading beside reading, reading ahead of a new object -/

theorem set_strip_map {cs : List PV} {off : Nat} {x : PV} (hx : cs[off]? = some x) : (cs.set off x.strip).map PV.strip = cs.map PV.strip := by
  apply List.ext_getElem?
  intro i
  simp only [List.getElem?_map, List.getElem?_set]
  by_cases e : off = i
  · subst e
    have hlt := (List.getElem?_eq_some_iff.1 hx).1
    rw [if_pos rfl, if_pos hlt, hx]
    simp
    cases x <;> simp [PV.strip]
  · rw [if_neg e]

/-- Objects alike but for what is one's own. -/
def Alike (H H' : List PObj) : Prop := ∀ id : Nat, (objCells H' id).map (fun cs => cs.map PV.strip) = (objCells H id).map (fun cs => cs.map PV.strip)

theorem loadPV_strip {H H' : List PObj} (h : ∀ id cs, objCells H id = some cs → ∃ cs', objCells H' id = some cs' ∧ cs'.map PV.strip = cs.map PV.strip) {p r : PV} {k : Nat} {g : Bool} (hl : loadPV H p k g = some r) : loadPV H' p k g = some r := by
  unfold loadPV at hl ⊢
  cases p with
  | ptr id off =>
    simp only [Option.bind_eq_some_iff] at hl ⊢
    obtain ⟨cs, h1, l, h2, h3⟩ := hl
    obtain ⟨cs', e1, e2⟩ := h id cs h1
    have hlen : cs'.length = cs.length := by have := congrArg List.length e2; simpa using this
    unfold cellsAt at h2 ⊢
    split at h2
    · rename_i hle
      cases h2
      refine ⟨cs', e1, _, by rw [if_pos (by omega)], ?_⟩
      rw [← h3, List.map_take, List.map_drop, e2, List.map_take, List.map_drop]
    · cases h2
  | ept cs off => exact hl
  | _ => cases hl

theorem objCells_append {H : List PObj} {x : PObj} {id : Nat} {cs : List PV} (h : objCells H id = some cs) : objCells (H ++ [x]) id = some cs := by
  unfold objCells at h ⊢
  split at h
  · rename_i cs' hg
    rw [List.getElem?_append_left (List.getElem?_eq_some_iff.1 hg).1, hg]
    exact h
  · cases h

theorem objCells_set {H : List PObj} {id i : Nat} {cs0 cs : List PV} {off : Nat} {x : PV} (h0 : objCells H id = some cs0) (hx : cs0[off]? = some x) (h : objCells H i = some cs) :
    ∃ cs', objCells (H.set id (.cells (cs0.set off x.strip))) i = some cs' ∧ cs'.map PV.strip = cs.map PV.strip := by
  unfold objCells at h h0 ⊢
  by_cases e : id = i
  · subst e
    have hlt : id < H.length := by
      split at h0
      · rename_i hg; exact (List.getElem?_eq_some_iff.1 hg).1
      · cases h0
    rw [List.getElem?_set_self hlt]
    refine ⟨_, rfl, ?_⟩
    rw [h0] at h
    cases h
    exact set_strip_map hx
  · rw [List.getElem?_set_ne e]
    exact ⟨cs, h, rfl⟩

end
end Go.Pi
/- Two operations that don't wait for each other change places: objects, calls. -/
namespace Go.Pi

section
variable {C : Cx} {o q : POp} {K : St → Prop} {s s' s1 s2 : St}

theorem set_arg_H {d : Option Nat} {p : PV} {H : List PObj} : (({ s with H := H } : St).set d p).H = H := by rw [set_H]

/-- A new object, whatever the state. -/
theorem alloc_form (hq : q.op.hc = .alloc) (hs : q.op.step q.dst s = some s1) : ∃ x, s1 = ({ s with H := s.H ++ [x] } : St).set q.dst (.ptr s.H.length 0) ∧
    ∀ s', (∀ t ∈ q.reads, s'.t t = s.t t) → q.op.step q.dst s' = some (({ s' with H := s'.H ++ [x] } : St).set q.dst (.ptr s'.H.length 0)) := by
  have hcase : (∃ z, q.op = .alloc z) ∨ ∃ y, q.op = .box y := by
    cases ho : q.op <;> rw [ho] at hq <;> simp [PO.hc] at hq
    · exact .inl ⟨_, rfl⟩
    · exact .inr ⟨_, rfl⟩
  rcases hcase with ⟨z, ho⟩ | ⟨y, ho⟩
  · rw [ho] at hs ⊢
    simp only [PO.step, Option.some.injEq] at hs
    exact ⟨.cells z, hs.symm, fun s' _ => rfl⟩
  · have harg : ∀ s' : St, (∀ t ∈ q.reads, s'.t t = s.t t) → s'.arg y = s.arg y := fun s' h => arg_congr (argReads h y (by rw [ho]; simp [PO.args]))
    rw [ho] at hs ⊢
    simp only [PO.step] at hs ⊢
    split at hs
    · rename_i hst
      cases hs
      exact ⟨_, rfl, fun s' h => by rw [harg s' h, if_pos hst]⟩
    · cases hs

/-- A load, whatever else has become of what is one's own. -/
theorem load_form {p : Arg} {k : Nat} {g : Bool} (ho : o.op = .load p k g) (hs : o.op.step o.dst s = some s1) : ∃ r, s1 = s.set o.dst r ∧
    ∀ s', (∀ t ∈ o.reads, s'.t t = s.t t) → (∀ id cs, objCells s.H id = some cs → ∃ cs', objCells s'.H id = some cs' ∧ cs'.map PV.strip = cs.map PV.strip) → o.op.step o.dst s' = some (s'.set o.dst r) := by
  rw [ho] at hs ⊢
  have hv : (PO.load p k g).isVal = true := rfl
  rw [step_val hv] at hs
  simp only [PO.val, Option.map_eq_some_iff] at hs
  obtain ⟨r, hr, rfl⟩ := hs
  refine ⟨r, rfl, fun s' h hH => ?_⟩
  have harg : s'.arg p = s.arg p := arg_congr (argReads h p (by rw [ho]; simp [PO.args]))
  rw [step_val hv]
  simp only [PO.val, harg, loadPV_strip hH hr, Option.map_some]

/-- A load that takes: what it turns. -/
theorem loadT_form {p : Arg} (ho : o.op = .loadT p) (hs : o.op.step o.dst s = some s1) :
    (∃ id off cs x, objCells s.H id = some cs ∧ cs[off]? = some x ∧ s1 = ({ s with H := s.H.set id (.cells (cs.set off x.strip)) } : St).set o.dst x ∧
      ∀ s', (∀ t ∈ o.reads, s'.t t = s.t t) → objCells s'.H id = some cs → o.op.step o.dst s' = some (({ s' with H := s'.H.set id (.cells (cs.set off x.strip)) } : St).set o.dst x)) ∨
    (∃ r, s1 = s.set o.dst r ∧ ∀ s', (∀ t ∈ o.reads, s'.t t = s.t t) → o.op.step o.dst s' = some (s'.set o.dst r)) := by
  have harg : ∀ s' : St, (∀ t ∈ o.reads, s'.t t = s.t t) → s'.arg p = s.arg p := fun s' h => arg_congr (argReads h p (by rw [ho]; simp [PO.args]))
  rw [ho] at hs ⊢
  simp only [PO.step] at hs ⊢
  split at hs
  · rename_i id off e
    simp only [Option.bind_eq_some_iff, Option.map_eq_some_iff] at hs
    obtain ⟨cs, hcs, x, hx, rfl⟩ := hs
    exact .inl ⟨id, off, cs, x, hcs, hx, rfl, fun s' h hcs' => by rw [harg s' h, e]; simp [hcs', hx]⟩
  · rename_i cs off e
    simp only [Option.map_eq_some_iff] at hs
    obtain ⟨x, hx, rfl⟩ := hs
    exact .inr ⟨x.strip, rfl, fun s' h => by rw [harg s' h, e]; simp [hx]⟩
  · cases hs

theorem read_cases (h : o.op.hc = .read) (h2 : o.op.isCall = false) : (∃ p k g, o.op = .load p k g) ∨ ∃ p, o.op = .loadT p := by
  cases ho : o.op <;> rw [ho] at h h2 <;> simp [PO.hc] at h <;> simp [PO.isCall] at h2
  · exact .inl ⟨_, _, _, rfl⟩
  · exact .inr ⟨_, rfl⟩

theorem set_set_comm {d d' : Option Nat} {p p' : PV} (h : ∀ t, t ∈ d.toList → t ∉ d'.toList) : (s.set d p).set d' p' = (s.set d' p').set d p := by
  refine St.ext' (fun t => ?_) (by simp [set_H])
  simp only [set_t]
  by_cases h1 : t ∈ d.toList
  · simp [h1, h t h1]
  · simp [h1]

theorem setH_comm {d : Option Nat} {p : PV} {H : List PObj} : ({ (s.set d p) with H := H } : St) = ({ s with H := H } : St).set d p := by
  cases d <;> rfl

theorem append_set {H : List PObj} {x y : PObj} {id : Nat} (h : id < H.length) : (H ++ [x]).set id y = H.set id y ++ [x] := by
  rw [List.set_append]
  simp [h]

theorem objCells_lt {H : List PObj} {id : Nat} {cs : List PV} (h : objCells H id = some cs) : id < H.length := by
  unfold objCells at h
  split at h
  · rename_i hg; exact (List.getElem?_eq_some_iff.1 hg).1
  · cases h

theorem objCells_unset {H : List PObj} {id i : Nat} {cs0 cs : List PV} {off : Nat} {x : PV} (h0 : objCells H id = some cs0) (hx : cs0[off]? = some x) (h : objCells (H.set id (.cells (cs0.set off x.strip))) i = some cs) :
    ∃ cs', objCells H i = some cs' ∧ cs'.map PV.strip = cs.map PV.strip := by
  by_cases e : id = i
  · subst e
    refine ⟨cs0, h0, ?_⟩
    unfold objCells at h
    rw [List.getElem?_set_self (objCells_lt h0)] at h
    cases h
    exact (set_strip_map hx).symm
  · unfold objCells at h ⊢
    rw [List.getElem?_set_ne e] at h
    exact ⟨cs, h, rfl⟩

/-- Reading, then reading or a new object: the other way round. -/
theorem swap_read (ha : Apart o q) (hoc : o.op.isCall = false) (hqc : q.op.isCall = false) (ho : o.op.hc = .read) (hq : q.op.hc = .alloc ∨ (q.op.hc = .read ∧ ((∃ p k g, o.op = .load p k g) ∨ ∃ p k g, q.op = .load p k g)))
    (h1 : o.op.step o.dst s = some s1) (h2 : q.op.step q.dst s1 = some s2) : ∃ s1', q.op.step q.dst s = some s1' ∧ o.op.step o.dst s1' = some s2 := by
  have hdd : ∀ t, t ∈ o.dst.toList → t ∉ q.dst.toList := fun t ht hq => ha.ww t (dst_writes ht) (dst_writes hq)
  have hf := step_frame h1
  have hst : o.op.strips = [] := by
    rcases read_cases ho hoc with ⟨p, k, g, e⟩ | ⟨p, e⟩ <;> rw [e] <;> rfl
  have hqst : q.op.strips = [] := by
    rcases hq with hq | ⟨hq, _⟩
    · cases e : q.op <;> rw [e] at hq <;> simp [PO.hc] at hq <;> rfl
    · rcases read_cases hq hqc with ⟨p, k, g, e⟩ | ⟨p, e⟩ <;> rw [e] <;> rfl
  have agq : ∀ t ∈ q.reads, s.t t = s1.t t := fun t ht => (hf.1 t (fun hw => ha.wr t (by unfold POp.writes; unfold PO.turns at hw; exact hw) ht)).symm
  have ago : ∀ (H : List PObj) (r : PV), ∀ t ∈ o.reads, (({ s with H := H } : St).set q.dst r).t t = s.t t := fun H r t ht => by
    rw [set_t, if_neg (fun hd => ha.rw t (dst_writes hd) ht)]
  have ago' : ∀ (r : PV), ∀ t ∈ o.reads, (s.set q.dst r).t t = s.t t := fun r t ht => by
    rw [set_t, if_neg (fun hd => ha.rw t (dst_writes hd) ht)]
  rcases read_cases ho hoc with ⟨p, k, g, e⟩ | ⟨p, e⟩
  · -- a load first
    obtain ⟨r, rfl, hform⟩ := load_form e h1
    rcases hq with hq | ⟨hq, _⟩
    · obtain ⟨x, rfl, hx⟩ := alloc_form hq h2
      refine ⟨_, hx s agq, ?_⟩
      rw [hform _ (ago _ _) (fun id cs hcs => ⟨cs, by rw [set_arg_H]; exact objCells_append hcs, rfl⟩)]
      congr 1
      rw [set_H, setH_comm, set_set_comm hdd]
    · rcases read_cases hq hqc with ⟨p', k', g', e'⟩ | ⟨p', e'⟩
      · obtain ⟨r', rfl, hform'⟩ := load_form e' h2
        refine ⟨_, hform' s agq (fun id cs hcs => ⟨cs, by rw [set_H] at hcs; exact hcs, rfl⟩), ?_⟩
        rw [hform _ (ago' _) (fun id cs hcs => ⟨cs, by rw [set_H]; exact hcs, rfl⟩)]
        congr 1
        rw [set_set_comm hdd]
      · rcases loadT_form e' h2 with ⟨id, off, cs, x, hcs, hx, rfl, hform'⟩ | ⟨r', rfl, hform'⟩
        · rw [set_H] at hcs
          refine ⟨_, hform' s agq hcs, ?_⟩
          rw [hform _ (ago _ _) (fun i c hc => by rw [set_arg_H]; exact objCells_set hcs hx hc)]
          congr 1
          rw [set_H, setH_comm, set_set_comm hdd]
        · refine ⟨_, hform' s agq, ?_⟩
          rw [hform _ (ago' _) (fun id cs hcs => ⟨cs, by rw [set_H]; exact hcs, rfl⟩)]
          congr 1
          rw [set_set_comm hdd]
  · rcases loadT_form e h1 with ⟨id, off, cs, x, hcs, hx, rfl, hform⟩ | ⟨r, rfl, hform⟩
    · rcases hq with hq | ⟨hq, hl⟩
      · obtain ⟨y, rfl, hy⟩ := alloc_form hq h2
        refine ⟨_, hy s agq, ?_⟩
        rw [hform _ (ago _ _) (by rw [set_arg_H]; exact objCells_append hcs)]
        congr 1
        rw [set_H, set_H]
        simp only
        rw [setH_comm, setH_comm, append_set (objCells_lt hcs), List.length_set, set_set_comm hdd]
      · have hl' : ∃ p k g, q.op = .load p k g := by
          rcases hl with ⟨p', k', g', e'⟩ | hl
          · rw [e] at e'; cases e'
          · exact hl
        obtain ⟨p', k', g', e'⟩ := hl'
        obtain ⟨r', rfl, hform'⟩ := load_form e' h2
        refine ⟨_, hform' s agq (fun i c hc => by rw [set_arg_H] at hc; exact objCells_unset hcs hx hc), ?_⟩
        rw [hform _ (ago' _) (by rw [set_H]; exact hcs)]
        congr 1
        rw [set_H, setH_comm, set_set_comm hdd]
    · rcases hq with hq | ⟨hq, hl⟩
      · obtain ⟨y, rfl, hy⟩ := alloc_form hq h2
        refine ⟨_, hy s agq, ?_⟩
        rw [hform _ (ago _ _)]
        congr 1
        rw [set_H, setH_comm, set_set_comm hdd]
      · have hl' : ∃ p k g, q.op = .load p k g := by
          rcases hl with ⟨p', k', g', e'⟩ | hl
          · rw [e] at e'; cases e'
          · exact hl
        obtain ⟨p', k', g', e'⟩ := hl'
        obtain ⟨r', rfl, hform'⟩ := load_form e' h2
        refine ⟨_, hform' s agq (fun id cs hcs => ⟨cs, by rw [set_H] at hcs; exact hcs, rfl⟩), ?_⟩
        rw [hform _ (ago' _)]
        congr 1
        rw [set_set_comm hdd]

end
end Go.Pi
/- Two operations that don't wait for each other change places: all of it. -/
namespace Go.Pi

section
variable {C : Cx} {o q : POp} {K : St → Prop} {s s' s1 s2 : St}

def PO.isBig : PO → Bool
  | .call .. | .callv .. => true
  | _ => false

theorem big_congr {R : PV → List PObj → Prop} (h : ∀ t ∈ o.reads, s'.t t = s.t t) (hH : s'.H = s.H) : PO.big C s' R o.op = PO.big C s R o.op := by
  have ha : ∀ y ∈ o.op.args, s'.arg y = s.arg y := fun y hy => arg_congr (argReads h y hy)
  cases ho : o.op <;> rw [ho] at ha <;> simp only [PO.args] at ha <;> simp only [PO.big]
  · rw [map_arg_congr ha, hH]
  · rw [ha _ (by simp), map_arg_congr (fun a h => ha a (by simp [h])), hH]

theorem pwpDo_big (hb : o.op.isBig = true) : pwpDo C o K s ↔ ∃ R, PO.big C s R o.op ∧ (∃ r H', R r H') ∧ ∀ r H', R r H' → K (({ s with H := H' } : St).set o.dst r.strip) := by
  unfold pwpDo
  cases ho : o.op <;> rw [ho] at hb <;> simp [PO.isBig] at hb <;> exact Iff.rfl

def PO.isSoft : PO → Bool
  | .pcall .. => true
  | _ => false

theorem call_cases (h : o.op.isCall = true) (hn : o.op.hc ≠ .never) : o.op.isSoft = true ∨ o.op.isBig = true := by
  cases ho : o.op <;> rw [ho] at h hn <;> simp [PO.isCall] at h <;> simp [PO.hc] at hn <;> simp [PO.isBig, PO.isSoft]

theorem big_hc (h : o.op.isBig = true) : o.op.hc = .write ∧ o.op.isCall = true ∧ o.op.strips = [] := by
  cases ho : o.op <;> rw [ho] at h <;> simp [PO.isBig] at h <;> exact ⟨rfl, rfl, rfl⟩

/-- What a call that turns nothing says. -/
def PO.says (C : Cx) (s : St) (r : PV) : PO → Prop
  | .pcall f args => Pure C.prog f (args.map s.arg) r
  | _ => False

theorem pwpDo_soft (ho : o.op.isSoft = true) : pwpDo C o K s ↔ ∃ r, o.op.says C s r ∧ K (s.set o.dst r.strip) := by
  unfold pwpDo
  cases h : o.op <;> rw [h] at ho <;> simp [PO.isSoft] at ho <;> simp only [PO.says]

theorem soft_hc (h : o.op.isSoft = true) : o.op.hc = .pure := by
  cases ho : o.op <;> rw [ho] at h <;> simp [PO.isSoft] at h <;> rfl

theorem says_congr {r : PV} (h : ∀ t ∈ o.reads, s'.t t = s.t t) (hs : o.op.says C s r) : o.op.says C s' r := by
  have ha : ∀ y ∈ o.op.args, s'.arg y = s.arg y := fun y hy => arg_congr (argReads h y hy)
  cases ho : o.op <;> rw [ho] at ha hs <;> simp only [PO.args] at ha <;> simp only [PO.says] at hs ⊢
  rw [map_arg_congr ha]; exact hs

/-- A step behind what turns other slots only. -/
theorem stepG_over {H : List PObj} {r : PV} (hq : o.stepG s = some s1) (hr : ∀ t ∈ o.reads, t ∉ q.dst.toList) (hw : ∀ t ∈ o.writes, t ∉ q.dst.toList) (hH : H = s.H ∨ o.indep s) :
    ∃ H1, o.stepG (({ s with H := H } : St).set q.dst r) = some (({ s1 with H := H1 } : St).set q.dst r) ∧ (H = s.H → H1 = s1.H) ∧ (o.indep s → H1 = H) := by
  have ag : ∀ t ∈ o.reads, (({ s with H := H } : St).set q.dst r).t t = s.t t := fun t ht => by rw [set_t, if_neg (hr t ht)]
  obtain ⟨s2, g1, g2, g3, g4⟩ := stepG_congr (s' := ({ s with H := H } : St).set q.dst r) hq ag (hH.symm.imp id (fun h => by rw [set_H, h]))
  refine ⟨s2.H, ?_, fun e => g4 (by rw [set_H, e]), fun hi => by rw [g3 hi, set_H]⟩
  rw [g1]
  congr 1
  refine St.ext' (fun t => ?_) (by rw [set_H])
  rw [g2 t, set_t, set_t]
  by_cases h1 : t ∈ o.writes
  · rw [if_pos h1, if_neg (hw t h1)]
  · rw [if_neg h1]
    by_cases h2 : t ∈ q.dst.toList
    · rw [if_pos h2, if_pos h2]
    · rw [if_neg h2, if_neg h2]
      exact ((stepG_frame hq).1 t h1).symm

theorem setH_set {H H' : List PObj} {d : Option Nat} {p : PV} : ({ (({ s with H := H } : St).set d p) with H := H' } : St) = ({ s with H := H' } : St).set d p := by
  cases d <;> rfl

theorem strip_flat {p : PV} {ks : Bool × List Nat} {b : Bool} (h : keyEq ks p p = some b) : stripAll p = p := by
  obtain ⟨g, ks⟩ := ks
  unfold keyEq at h
  split at h
  · obtain ⟨us, vs, rfl, _, _⟩ := eqCells_vals h
    simp [stripAll, PV.strip, Function.comp_def]
  · rfl
  · cases h

theorem findK_set {ks : Bool × List Nat} {k : PV} (hk : keyEq ks k k = some true) : ∀ {es : List (PV × PV × Nat)} {i : Nat} {v : PV × Nat}, findK ks k es = some (some i) → findK ks k (es.set i (k, v)) = some (some i)
  | [], i, v, h => by simp [findK] at h
  | e :: es, i, v, h => by
    simp only [findK, Option.bind_eq_some_iff] at h
    obtain ⟨b, hb, h⟩ := h
    cases b with
    | true => simp at h; subst h; simp [findK, hk]
    | false =>
      simp only [Bool.false_eq_true, if_false, Option.map_eq_some_iff] at h
      obtain ⟨o, ho, hi⟩ := h
      cases o with
      | none => simp at hi
      | some j =>
        simp at hi
        subst hi
        simp [findK, hb, findK_set hk ho]

theorem findK_push {ks : Bool × List Nat} {k : PV} (hk : keyEq ks k k = some true) : ∀ {es : List (PV × PV × Nat)} {v : PV × Nat}, findK ks k es = some none → findK ks k (es ++ [(k, v)]) = some (some es.length)
  | [], v, h => by simp [findK, hk]
  | e :: es, v, h => by
    simp only [findK, Option.bind_eq_some_iff] at h
    obtain ⟨b, hb, h⟩ := h
    cases b with
    | true => simp at h
    | false =>
      simp only [Bool.false_eq_true, if_false, Option.map_eq_some_iff] at h
      obtain ⟨o, ho, hi⟩ := h
      cases o with
      | some j => simp at hi
      | none => simp [findK, hb, findK_push hk ho]

/-- An entry is made: what is looked up is as it was. -/
theorem look_mentry {H H' : List PObj} {ks : Bool × List Nat} {z m k p r : PV} (hm : mentryPV H ks z m k = some (r, H')) (hl : lookPV H ks z false m k = some p) : lookPV H' ks z false m k = some p := by
  unfold mentryPV at hm
  split at hm
  · rename_i id
    split at hm
    · rename_i clock es hg
      split at hm
      · rename_i hok
        simp only [Bool.and_eq_true] at hok
        obtain ⟨b, hb⟩ := Option.isSome_iff_exists.1 hok.2
        have hself := (keyEq_self hb).1
        have hst := strip_flat hb
        have hlt := (List.getElem?_eq_some_iff.1 hg).1
        simp only [Option.bind_eq_some_iff] at hm
        obtain ⟨o, ho, hm⟩ := hm
        simp only [lookPV, mapOf, hg, Option.bind_some, hself, Option.isSome_some, if_true, ho, Option.map_some, Bool.false_eq_true, if_false, Option.some.injEq] at hl
        cases o with
        | some i =>
          simp only [Option.map_eq_some_iff, Prod.mk.injEq] at hm
          obtain ⟨e, he, _, rfl⟩ := hm
          have hi := (List.getElem?_eq_some_iff.1 he).1
          rw [hst]
          simp only [lookPV, mapOf, List.getElem?_set_self hlt, Option.bind_some, hself, Option.isSome_some, if_true, findK_set hself ho, Option.map_some, Bool.false_eq_true, if_false, Option.some.injEq, List.getElem?_set_self hi]
          simpa [he] using hl
        | none =>
          simp only [Option.some.injEq, Prod.mk.injEq] at hm
          obtain ⟨_, rfl⟩ := hm
          rw [hst]
          simp only [lookPV, mapOf, List.getElem?_set_self hlt, Option.bind_some, hself, Option.isSome_some, if_true, findK_push hself ho, Option.map_some, Bool.false_eq_true, if_false, Option.some.injEq]
          simpa using hl
      · cases hm
    · cases hm
  · cases hm

theorem sameZero_eq {z z' : PV} (h : sameZero z z' = true) : z = z' := by
  unfold sameZero at h
  split at h
  · simp at h; obtain ⟨rfl, rfl⟩ := h; rfl
  · cases h

theorem swap_look (ha : Apart o q) (hl : lookEntry o q = true) (h : pwpOp C o (pwpOp C q K) s) : pwpOp C q (pwpOp C o K) s := by
  unfold lookEntry at hl
  split at hl
  · rename_i d aft ks z a b d' aft' ks' z' a' b'
    simp only [Bool.and_eq_true, beq_iff_eq] at hl
    obtain ⟨⟨⟨rfl, rfl⟩, rfl⟩, hz⟩ := hl
    have hz := sameZero_eq hz
    subst hz
    have n1 : ∀ t ∈ d.toList, t ≠ a ∧ t ≠ b := fun t ht => by
      have := ha.wr t (dst_writes ht)
      simp [POp.reads, PO.args, Arg.reads] at this
      exact this
    have n2 : ∀ t ∈ d'.toList, t ≠ a ∧ t ≠ b := fun t ht => by
      have := ha.rw t (dst_writes ht)
      simp [POp.reads, PO.args, Arg.reads] at this
      exact this
    have hdd : ∀ t, t ∈ d.toList → t ∉ d'.toList := fun t ht hq => ha.ww t (dst_writes ht) (dst_writes hq)
    have ta : ∀ (s : St) (d0 : Option Nat) (p : PV) (x : Nat), (∀ t ∈ d0.toList, t ≠ x) → (s.set d0 p).arg (.t x) = s.arg (.t x) := fun s d0 p x hx => by
      show ((s.set d0 p).t x).strip = (s.t x).strip
      rw [set_t, if_neg (fun hm => hx x hm rfl)]
    simp only [pwpOp, pwpDo, PO.step, PO.val, Option.map_eq_some_iff] at h ⊢
    obtain ⟨_, ⟨p, hp, rfl⟩, _, ⟨⟨r, H'⟩, hr, rfl⟩, hk⟩ := h
    rw [ta s d p a (fun t ht => (n1 t ht).1), ta s d p b (fun t ht => (n1 t ht).2), set_H] at hr
    refine ⟨_, ⟨(r, H'), hr, rfl⟩, _, ⟨p, ?_, rfl⟩, ?_⟩
    · rw [ta _ d' r a (fun t ht => (n2 t ht).1), ta _ d' r b (fun t ht => (n2 t ht).2), set_H]
      exact look_mentry hr hp
    · simp only at hk ⊢
      rw [setH_comm] at hk
      rw [set_set_comm (fun t ht hq => hdd t hq ht)]
      exact hk
  · cases hl

theorem swap (hs : swappable o q = true) (h : pwpOp C o (pwpOp C q K) s) : pwpOp C q (pwpOp C o K) s := by
  unfold swappable at hs
  simp only [Bool.and_eq_true, List.all_eq_true, Bool.not_eq_true', List.contains_eq_mem, decide_eq_false_iff_not] at hs
  obtain ⟨⟨hw, hr⟩, hcls⟩ := hs
  have ha : Apart o q := ⟨fun t ht => (hw t ht).1, fun t ht => (hw t ht).2, hr⟩
  rw [Bool.or_eq_true] at hcls
  rcases hcls with hcls | hcls
  · exact swap_look ha hcls h
  have dqr : ∀ t ∈ o.reads, t ∉ q.dst.toList := fun t ht hq => ha.rw t (dst_writes hq) ht
  have dqw : ∀ t ∈ o.writes, t ∉ q.dst.toList := fun t ht hq => ha.ww t ht (dst_writes hq)
  have dor : ∀ t ∈ q.reads, t ∉ o.dst.toList := fun t ht hq => ha.wr t (dst_writes hq) ht
  have dow : ∀ t ∈ q.writes, t ∉ o.dst.toList := fun t ht hq => ha.ww t (dst_writes hq) ht
  have hdd : ∀ t, t ∈ o.dst.toList → t ∉ q.dst.toList := fun t ht hq => ha.ww t (dst_writes ht) (dst_writes hq)
  have hdd' : ∀ t, t ∈ q.dst.toList → t ∉ o.dst.toList := fun t hq ht => ha.ww t (dst_writes ht) (dst_writes hq)
  have hon : o.op.hc ≠ .never := fun e => by rw [e] at hcls; simp at hcls
  have hqn : q.op.hc ≠ .never := fun e => by rw [e] at hcls; cases h : o.op.hc <;> rw [h] at hcls <;> simp at hcls
  have fin : ∀ {K' : St → Prop} {x y : St}, x = y → K' x → K' y := fun e hk => e ▸ hk
  by_cases odet : o.op.isCall = false ∨ o.gd s = some false
  · obtain ⟨s1, h1, h⟩ := (pwpOp_det odet).1 h
    have agq : ∀ t ∈ q.reads, s.t t = s1.t t := fun t ht => ((stepG_frame h1).1 t (fun hw => ha.wr t hw ht)).symm
    have gq : q.gd s1 = q.gd s := (gd_congr agq).symm
    by_cases qdet : q.op.isCall = false ∨ q.gd s1 = some false
    · obtain ⟨s2, h2, hk⟩ := (pwpOp_det qdet).1 h
      have key : ∃ s1', q.stepG s = some s1' ∧ o.stepG s1' = some s2 := by
        by_cases hi : o.indep s ∨ q.indep s1
        · exact swap_det ha h1 h2 hi
        · unfold POp.indep at hi
          have ho1 : o.op.hc ≠ .pure := fun e => hi (.inl (.inl e))
          have ho2 : o.gd s ≠ some false := fun e => hi (.inl (.inr e))
          have hq1 : q.op.hc ≠ .pure := fun e => hi (.inr (.inl e))
          have hq2 : q.gd s1 ≠ some false := fun e => hi (.inr (.inr e))
          unfold POp.stepG at h1 h2
          have ho3 : o.gd s = some true := by
            split at h1
            · assumption
            · exact absurd (by assumption) ho2
            · cases h1
          have hq3 : q.gd s1 = some true := by
            split at h2
            · assumption
            · exact absurd (by assumption) hq2
            · cases h2
          have hoc : o.op.isCall = false := odet.resolve_right ho2
          have hqc : q.op.isCall = false := qdet.resolve_right hq2
          rw [ho3] at h1
          rw [hq3] at h2
          simp only [hoc, hqc, Bool.false_eq_true, if_false] at h1 h2
          have hro : o.op.hc = .read ∧ (q.op.hc = .alloc ∨ (q.op.hc = .read ∧ ((∃ p k g, o.op = .load p k g) ∨ ∃ p k g, q.op = .load p k g))) := by
            cases e1 : o.op.hc <;> cases e2 : q.op.hc <;> simp only [e1, e2] at hcls ho1 hq1 <;> simp at hcls ho1 hq1
            · refine ⟨rfl, .inr ⟨rfl, ?_⟩⟩
              rcases read_cases e1 hoc with h | ⟨p, e⟩
              · exact .inl h
              · rcases read_cases e2 hqc with h | ⟨p', e'⟩
                · exact .inr h
                · rw [e, e'] at hcls; simp at hcls
            · exact ⟨rfl, .inl rfl⟩
          obtain ⟨s1', k1, k2⟩ := swap_read ha hoc hqc hro.1 hro.2 h1 h2
          have agq' : ∀ t ∈ o.reads, s1'.t t = s.t t := fun t ht => (step_frame k1).1 t (fun hw => ha.rw t hw ht)
          refine ⟨s1', ?_, ?_⟩
          · unfold POp.stepG
            rw [← gq, hq3]
            simp [hqc, k1]
          · unfold POp.stepG
            rw [gd_congr agq', ho3]
            simp [hoc, k2]
      obtain ⟨s1', k1, k2⟩ := key
      have qdet' : q.op.isCall = false ∨ q.gd s = some false := by rw [← gq]; exact qdet
      refine (pwpOp_det qdet').2 ⟨s1', k1, ?_⟩
      have ago : ∀ t ∈ o.reads, s1'.t t = s.t t := fun t ht => (stepG_frame k1).1 t (fun hw => ha.rw t hw ht)
      exact (pwpOp_det (by rw [gd_congr ago]; exact odet)).2 ⟨s2, k2, hk⟩
    · have hqc : q.op.isCall = true := by
        cases e : q.op.isCall
        · exact absurd (.inl e) qdet
        · rfl
      rcases pwpOp_iff.1 h with ⟨hg, h⟩ | ⟨hg, h⟩
      · refine pwpOp_iff.2 (.inl ⟨by rw [← gq]; exact hg, ?_⟩)
        have odet' : ∀ (H : List PObj) (r : PV), o.op.isCall = false ∨ o.gd (({ s with H := H } : St).set q.dst r) = some false := fun H r => by
          rw [gd_congr (s := s) (fun t ht => by rw [set_t, if_neg (dqr t ht)])]; exact odet
        rcases call_cases hqc hqn with hsoft | hbig
        · rw [pwpDo_soft hsoft] at h ⊢
          obtain ⟨r, hp, hk⟩ := h
          refine ⟨r, says_congr agq hp, ?_⟩
          obtain ⟨H1, k1, k2, _⟩ := stepG_over (q := q) (H := s.H) (r := r.strip) h1 dqr dqw (.inl rfl)
          refine (pwpOp_det (odet' s.H r.strip)).2 ⟨_, k1, ?_⟩
          rw [k2 rfl]
          exact hk
        · obtain ⟨b1, b2, b3⟩ := big_hc hbig
          rw [pwpDo_big hbig] at h ⊢
          obtain ⟨R, hsum, hin, hk⟩ := h
          have hi : o.indep s := by
            rw [b1] at hcls
            by_cases hpu : o.op.hc = .pure
            · exact .inl hpu
            · cases e1 : o.op.hc <;> simp [e1] at hcls hpu
          refine ⟨R, by rw [big_congr agq ((stepG_frame h1).2 hi).symm]; exact hsum, hin, fun r H' hR => ?_⟩
          obtain ⟨H1, k1, _, k3⟩ := stepG_over (q := q) (H := H') (r := r.strip) h1 dqr dqw (.inr hi)
          refine (pwpOp_det (odet' H' r.strip)).2 ⟨_, k1, ?_⟩
          rw [k3 hi]
          exact hk r H' hR
      · exact absurd (.inr hg) qdet
  · have hoc : o.op.isCall = true := by
      cases e : o.op.isCall
      · exact absurd (.inl e) odet
      · rfl
    rcases pwpOp_iff.1 h with ⟨hg, h⟩ | ⟨hg, h⟩
    · have ogd : ∀ x : St, (∀ t ∈ o.reads, x.t t = s.t t) → o.gd x = some true := fun x hx => by rw [gd_congr hx]; exact hg
      rcases call_cases hoc hon with hsoft | hbig
      · rw [pwpDo_soft hsoft] at h
        obtain ⟨r, hp, h⟩ := h
        have agq : ∀ t ∈ q.reads, (s.set o.dst r.strip).t t = s.t t := fun t ht => by rw [set_t, if_neg (dor t ht)]
        by_cases qdet : q.op.isCall = false ∨ q.gd (s.set o.dst r.strip) = some false
        · obtain ⟨s2, h2, hk⟩ := (pwpOp_det qdet).1 h
          obtain ⟨s1', g1, g2, g3, g4⟩ := stepG_congr (s' := s) h2 (fun t ht => (agq t ht).symm) (.inr (by rw [set_H]))
          refine (pwpOp_det (by rw [← gd_congr agq]; exact qdet)).2 ⟨s1', g1, pwpOp_iff.2 (.inl ⟨?_, ?_⟩)⟩
          · exact ogd _ fun t ht => (stepG_frame g1).1 t (fun hw => ha.rw t hw ht)
          · rw [pwpDo_soft hsoft]
            refine ⟨r, says_congr (fun t ht => (stepG_frame g1).1 t (fun hw => ha.rw t hw ht)) hp, ?_⟩
            refine fin (St.ext' (fun t => ?_) ?_) hk
            · rw [set_t, g2 t]
              by_cases h3 : t ∈ q.writes
              · rw [if_neg (dow t h3), if_pos h3]
              · rw [(stepG_frame h2).1 t h3, set_t, if_neg h3]
            · rw [set_H, g4 (by rw [set_H])]
        · rcases pwpOp_iff.1 h with ⟨hgq, h⟩ | ⟨hgq, h⟩
          · have hqc : q.op.isCall = true := by
              cases e : q.op.isCall
              · exact absurd (.inl e) qdet
              · rfl
            refine pwpOp_iff.2 (.inl ⟨by rw [← gd_congr agq]; exact hgq, ?_⟩)
            have ao : ∀ (H : List PObj) (r' : PV), ∀ t ∈ o.reads, (({ s with H := H } : St).set q.dst r').t t = s.t t := fun H r' t ht => by rw [set_t, if_neg (dqr t ht)]
            have done : ∀ (H : List PObj) (r' : PV), K ((({ s with H := H } : St).set o.dst r.strip).set q.dst r') → pwpOp C o K (({ s with H := H } : St).set q.dst r') := fun H r' hk => by
              refine pwpOp_iff.2 (.inl ⟨ogd _ (ao H r'), ?_⟩)
              rw [pwpDo_soft hsoft]
              exact ⟨r, says_congr (ao H r') hp, fin (set_set_comm hdd) hk⟩
            rcases call_cases hqc hqn with hsoft' | hbig'
            · rw [pwpDo_soft hsoft'] at h ⊢
              obtain ⟨r', hp', hk⟩ := h
              exact ⟨r', says_congr (fun t ht => (agq t ht).symm) hp', done s.H r'.strip hk⟩
            · rw [pwpDo_big hbig'] at h ⊢
              obtain ⟨R, hsum, hin, hk⟩ := h
              refine ⟨R, by rw [← big_congr agq (by rw [set_H])]; exact hsum, hin, fun r' H' hR => done H' r'.strip ?_⟩
              have := hk r' H' hR
              rw [setH_comm] at this
              exact this
          · exact absurd (.inr hgq) qdet
      · obtain ⟨b1, b2, b3⟩ := big_hc hbig
        rw [pwpDo_big hbig] at h
        obtain ⟨R, hsum, ⟨r0, H0, hR0⟩, hk⟩ := h
        have hq : q.op.hc = .pure ∧ q.op.isCall = false := by
          rw [b1, b2] at hcls
          cases e1 : q.op.hc <;> simp [e1] at hcls
          exact ⟨rfl, hcls⟩
        have agq : ∀ (H : List PObj) (r : PV), ∀ t ∈ q.reads, (({ s with H := H } : St).set o.dst r).t t = s.t t := fun H r t ht => by rw [set_t, if_neg (dor t ht)]
        obtain ⟨s2, h2, _⟩ := (pwpOp_det (.inl hq.2)).1 (hk r0 H0 hR0)
        obtain ⟨s1', g1, g2, g3, g4⟩ := stepG_congr (s' := s) h2 (fun t ht => (agq _ _ t ht).symm) (.inl (.inl hq.1))
        have ago : ∀ t ∈ o.reads, s1'.t t = s.t t := fun t ht => (stepG_frame g1).1 t (fun hw => ha.rw t hw ht)
        have hH1 : s1'.H = s.H := (stepG_frame g1).2 (.inl hq.1)
        refine (pwpOp_det (.inl hq.2)).2 ⟨s1', g1, pwpOp_iff.2 (.inl ⟨ogd _ ago, ?_⟩)⟩
        rw [pwpDo_big hbig]
        refine ⟨R, by rw [big_congr ago hH1]; exact hsum, ⟨r0, H0, hR0⟩, fun r H' hR => ?_⟩
        obtain ⟨s3, h3, hk3⟩ := (pwpOp_det (.inl hq.2)).1 (hk r H' hR)
        obtain ⟨H1, k1, _, k3⟩ := stepG_over (q := o) (H := H') (r := r.strip) g1 dor dow (.inr (.inl hq.1))
        rw [h3] at k1
        have hH3 := k3 (.inl hq.1)
        rw [hH3] at k1
        cases k1
        exact hk3
    · exact absurd (.inr hg) odet

end
end Go.Pi
/- A region of operations, in whatever order the machine takes them. -/
namespace Go.Pi
open Go.RowKit

theorem mapM_spec {α β : Type} {f : α → Option β} : ∀ {l : List α} {r : List β}, l.mapM f = some r → r.length = l.length ∧ ∀ (i : Nat) (x : α), l[i]? = some x → ∃ y, r[i]? = some y ∧ f x = some y
  | [], r, h => by
    simp at h
    subst h
    exact ⟨rfl, fun i x hx => by simp at hx⟩
  | x :: l, r, h => by
    simp only [List.mapM_cons, Option.pure_def, Option.bind_eq_bind, Option.bind_eq_some_iff] at h
    obtain ⟨y, hy, ys, hys, he⟩ := h
    cases he
    obtain ⟨h1, h2⟩ := mapM_spec hys
    refine ⟨by simp [h1], fun i z hz => ?_⟩
    cases i with
    | zero => simp at hz; subst hz; exact ⟨y, rfl, hy⟩
    | succ i => exact h2 i z (by simpa using hz)

section
variable {P : Program} {C : Cx} {E : Ent} {s : St} {bl : List Nat} {π : Nat → Nat → Prop} {om : Loc → Option Nat} {a : Act} {w : World} {pures : List Nat} {ops : Array Oper}

structure OperIs (P : Program) (pures : List Nat) (n : Nat) (ops : Array Oper) (o : Oper) (q : POp) : Prop where
  op : compOp P pures ops o = some q.op
  dst : q.dst = o.dst
  lt : ∀ t, o.dst = some t → t < n
  gn : o.guard = none → q.guard = none
  gs : ∀ j b, o.guard = some (j, b) → ∃ t, (ops[j]?).bind (·.dst) = some t ∧ q.guard = some (t, b)
  aft : q.after = (o.after.toList.filter (Region.binds .any)).map (·.on)

theorem compOper_spec {n : Nat} {o : Oper} {q : POp} (h : compOper P pures n ops o = some q) : OperIs P pures n ops o q := by
  unfold compOper at h
  simp only [Option.bind_eq_bind, Option.bind_eq_some_iff] at h
  obtain ⟨op, hop, h⟩ := h
  cases hg : o.guard with
  | none =>
    rw [hg] at h
    simp only [Option.bind_some] at h
    rw [Option.ite_none_right_eq_some] at h
    obtain ⟨hlt, h⟩ := h
    cases h
    exact ⟨hop, rfl, fun t ht => by rw [ht] at hlt; simpa using hlt, fun _ => rfl, fun j b e => absurd (hg.symm.trans e) (by simp), rfl⟩
  | some jb =>
    obtain ⟨j, b⟩ := jb
    rw [hg] at h
    simp only [Option.bind_eq_some_iff, Option.map_eq_some_iff] at h
    obtain ⟨g, ⟨t, ht, rfl⟩, h⟩ := h
    rw [Option.ite_none_right_eq_some] at h
    obtain ⟨hlt, h⟩ := h
    cases h
    exact ⟨hop, rfl, fun t ht => by rw [ht] at hlt; simpa using hlt, fun e => absurd (hg.symm.trans e) (by simp), fun j' b' e => (by have e := hg.symm.trans e; cases e; exact ⟨t, Option.bind_eq_some_iff.2 ht, rfl⟩), rfl⟩

theorem opSound (h : Rel E s bl π om a w) (hE : E.Y = C.Y) (hok : EOk C.prog E) {o : Oper} {q : POp} {i : Nat} {K : St → Prop} {next : Act → World → Prop} {Q : Exit → Act → World → Prop}
    (hi : ops[i]? = some o) (hc : OperIs C.prog pures E.n ops o q) (hp : pwpOp C q K s)
    (hn : ∀ s' bl' π' om' a' w', K s' → Rel E s' bl' π' om' a' w' → next a' w') : wpOpIn (fence E) 0 C.prog ops Q i next a w := by
  unfold wpOpIn
  rw [hi]
  simp only
  have hdo : pwpDo C q K s → o.wpIn (fence E) 0 C.prog a w next Q := fun hp => doSound h hE hok hc.op hc.dst hc.lt hp hn
  rcases ho : o.guard with _ | ⟨j, b⟩
  · have hq := hc.gn ho
    have hw : Region.wanted o (yielded ops a.tmps) = true := by simp [Region.wanted, ho]
    rw [if_pos hw]
    unfold pwpOp at hp
    rw [hq] at hp
    exact hdo hp
  · obtain ⟨t, ht, hq⟩ := hc.gs j b ho
    unfold pwpOp at hp
    rw [hq] at hp
    obtain ⟨g, h1, h2, h3⟩ := hp
    have hw : Region.wanted o (yielded ops a.tmps) = g := by
      have hr := (h.tm t).1
      have hu : ∀ c, a.tmps.getD t undef = .bool c → yielded ops a.tmps j = some c := by
        intro c hc
        unfold yielded
        rw [ht]
        simp only [Option.bind_some]
        cases hg : a.tmps[t]? with
        | none =>
          have : a.tmps.getD t undef = undef := by simp [Array.getD_eq_getD_getElem?, hg]
          rw [this] at hc
          cases hc
        | some u =>
          have : a.tmps.getD t undef = u := by simp [Array.getD_eq_getD_getElem?, hg]
          rw [this] at hc
          rw [hc]
      have hn : a.tmps.getD t undef = .tuple #[] → yielded ops a.tmps j = none := by
        intro hc
        unfold yielded
        rw [ht]
        simp only [Option.bind_some]
        cases hg : a.tmps[t]? with
        | none => rfl
        | some u =>
          have : a.tmps.getD t undef = u := by simp [Array.getD_eq_getD_getElem?, hg]
          rw [this] at hc
          rw [hc]
      unfold gdOf at h1
      split at h1
      · rename_i c hc
        rw [hc] at hr
        generalize hv : a.tmps.getD t undef = v at hr
        cases hr
        cases h1
        simp only [Region.wanted, ho]
        rw [hu c hv]
        rfl
      · rename_i hc
        rw [hc] at hr
        generalize hv : a.tmps.getD t undef = v at hr
        cases hr with
        | @tup _ vs hl _ =>
          have : vs = #[] := by simpa using hl
          subst this
          cases h1
          simp only [Region.wanted, ho, hn hv]
          rfl
      · cases h1
    rw [hw]
    cases g with
    | true =>
      rw [if_pos rfl]
      exact hdo (h2 rfl)
    | false =>
      rw [if_neg (by simp)]
      obtain ⟨om', hrel⟩ := h.putd (d := o.dst) (p := skipped) (v := undef) hc.lt none (.plain (.tup rfl (fun i z u hz => by simp at hz)) (.of fun xs e => by cases e)) (fun b hb => by cases hb)
      have := h3 rfl
      rw [hc.dst] at this
      refine ⟨fun _ _ => trivial, ?_⟩
      exact hn _ _ _ _ _ _ this hrel

/-- Operations in the order of the text. -/
theorem textSound {n : Nat} (hE : E.Y = C.Y) (hok : EOk C.prog E) (l : List POp) {K : St → Prop} {Q : Exit → Act → World → Prop} (hQ : ∀ s' bl' π' om' a' w', K s' → Rel E s' bl' π' om' a' w' → Q .normal a' w')
    (hn : E.n = n) (hl : ∀ (i : Nat) (o : Oper), ops[i]? = some o → ∃ q, l[i]? = some q ∧ OperIs C.prog pures n ops o q) (hlen : l.length = ops.size) :
    ∀ (k : Nat) {s : St} {bl : List Nat} {π : Nat → Nat → Prop} {om : Loc → Option Nat} {a : Act} {w : World}, k ≤ l.length → Rel E s bl π om a w → pwpOps C (l.drop (l.length - k)) K s → wpOpsIn (fence E) 0 C.prog ops Q (List.range' (l.length - k) k) a w := by
  intro k
  induction k with
  | zero =>
    intro s bl π om a w _ hr hp
    simp only [Nat.sub_zero, List.drop_length, pwpOps] at hp
    simp only [List.range'_zero, wpOpsIn]
    exact hQ _ _ _ _ _ _ hp hr
  | succ k ih =>
    intro s bl π om a w hk hr hp
    have hlt : l.length - (k + 1) < l.length := by omega
    have hi : ops[l.length - (k + 1)]? = some ops[l.length - (k + 1)] := Array.getElem?_eq_getElem (by omega)
    obtain ⟨q, hq, hc⟩ := hl _ _ hi
    have hd : l.drop (l.length - (k + 1)) = q :: l.drop (l.length - k) := by
      rw [List.drop_eq_getElem_cons hlt, show l.length - (k + 1) + 1 = l.length - k by omega]
      rw [List.getElem?_eq_getElem hlt] at hq
      rw [Option.some.inj hq]
    rw [hd] at hp
    rw [List.range'_succ, show l.length - (k + 1) + 1 = l.length - k by omega, wpOpsIn_cons]
    exact opSound hr hE hok hi (hn ▸ hc) hp (fun s' bl' π' om' a' w' hk' hr' => ih (by omega) hr' hk')

/-! ### Any order -/

theorem moveFront {q : POp} {K : St → Prop} : ∀ (pre post : List POp) {s : St}, (∀ o ∈ pre, swappable o q = true) → pwpOps C (pre ++ q :: post) K s → pwpOp C q (pwpOps C (pre ++ post) K) s
  | [], post, s, _, h => h
  | o :: pre, post, s, hs, h => by
    refine swap (hs o (by simp)) (pwpOp_mono (fun s' h' => ?_) h)
    exact moveFront pre post (fun o' ho' => hs o' (by simp [ho'])) h'

theorem fold_in (S : Nat → Prop) (acc : List Nat) (h : ∀ i, S i → ∀ t, (acc.getD i 0).testBit t = true → S t) :
    ∀ (l : List Nat) (m : Nat), (∀ t, m.testBit t = true → S t) → (∀ e ∈ l, S e) → ∀ t, (l.foldl (fun m i => m ||| (2 ^ i ||| acc.getD i 0)) m).testBit t = true → S t
  | [], m, hm, _ => hm
  | e :: l, m, hm, hl => by
    refine fold_in S acc h l _ ?_ (fun e' he' => hl e' (by simp [he']))
    intro t ht
    simp only [Nat.testBit_or, Bool.or_eq_true, Nat.testBit_two_pow, decide_eq_true_eq] at ht
    rcases ht with ht | ht | ht
    · exact hm t ht
    · subst ht; exact hl _ (by simp)
    · exact h e (hl e (by simp)) t ht

theorem preds_in (S : Nat → Prop) : ∀ (qs : List POp) (acc : List Nat), (∀ i, S i → ∀ t, (acc.getD i 0).testBit t = true → S t) →
    (∀ (k : Nat) (q : POp), qs[k]? = some q → S (acc.length + k) → ∀ e ∈ q.after, S e) → ∀ i, S i → ∀ t, ((predsOf qs acc).getD i 0).testBit t = true → S t
  | [], acc, h, _ => h
  | q :: qs, acc, h, hq => by
    unfold predsOf
    refine preds_in S qs _ ?_ ?_
    · intro i hi t ht
      rw [List.getD_eq_getElem?_getD] at ht
      by_cases hlt : i < acc.length
      · rw [List.getElem?_append_left hlt] at ht
        exact h i hi t (by rw [List.getD_eq_getElem?_getD]; exact ht)
      · rw [List.getElem?_append_right (by omega)] at ht
        by_cases he : i = acc.length
        · subst he
          simp only [Nat.sub_self, List.getElem?_cons_zero, Option.getD_some] at ht
          exact fold_in S acc h q.after 0 (fun t ht => by simp at ht) (hq 0 q rfl (by simpa using hi)) t ht
        · rw [List.getElem?_eq_none (by simp; omega)] at ht
          simp at ht
    · intro k q' hk hS
      refine hq (k + 1) q' hk (by simpa [Nat.add_assoc, Nat.add_comm 1 k] using hS)

/-- The numbers that are still to come. -/
def rem (n : Nat) (listed : Array Bool) : List Nat := (List.range n).filter fun i => !listed.getD i true

theorem mem_rem {n i : Nat} {listed : Array Bool} : i ∈ rem n listed ↔ i < n ∧ listed.getD i true = false := by
  simp [rem, List.mem_filter, List.mem_range]

def pick (l : List POp) (is : List Nat) : List POp := is.filterMap (l[·]?)

theorem pick_all : ∀ l : List POp, pick l (List.range l.length) = l
  | [] => rfl
  | q :: l => by
    have ih := pick_all l
    unfold pick at ih ⊢
    rw [List.length_cons, List.range_succ_eq_map, List.filterMap_cons, List.filterMap_map]
    simp only [List.getElem?_cons_zero]
    congr 1

theorem rem_set {n i : Nat} {listed : Array Bool} (hi : i < listed.size) : rem n (listed.setIfInBounds i true) = (rem n listed).filter (· ≠ i) := by
  unfold rem
  rw [List.filter_filter]
  apply List.filter_congr
  intro x _
  by_cases e : i = x
  · subst e; simp [Array.getD_eq_getD_getElem?, Array.getElem?_setIfInBounds, hi]
  · rw [Array.getD_eq_getD_getElem?, Array.getElem?_setIfInBounds_ne e, ← Array.getD_eq_getD_getElem?]
    have : x ≠ i := fun h => e h.symm
    simp [this]

theorem split_rem {n i : Nat} {listed : Array Bool} (hm : i ∈ rem n listed) : ∃ pre post, rem n listed = pre ++ i :: post ∧ (rem n listed).filter (· ≠ i) = pre ++ post ∧ ∀ j ∈ pre, j < i ∧ j ∈ rem n listed := by
  obtain ⟨pre, post, he⟩ := List.append_of_mem hm
  have hp : (rem n listed).Pairwise (· < ·) := List.Pairwise.filter _ List.pairwise_lt_range
  rw [he, List.pairwise_append] at hp
  obtain ⟨p1, p2, p3⟩ := hp
  rw [List.pairwise_cons] at p2
  refine ⟨pre, post, he, ?_, fun j hj => ⟨p3 j hj i (by simp), by rw [he]; simp [hj]⟩⟩
  rw [he, List.filter_append, List.filter_cons]
  simp only [ne_eq, decide_not, decide_true, Bool.not_true, Bool.false_eq_true, if_false]
  congr 1
  · exact List.filter_eq_self.2 fun j hj => by have := p3 j hj i (by simp); simp; omega
  · exact List.filter_eq_self.2 fun j hj => by have := p2.1 j hj; simp; omega

theorem anySound {n : Nat} (hE : E.Y = C.Y) (hok : EOk C.prog E) (l : List POp) {K : St → Prop} {Q : Exit → Act → World → Prop} (hQ : ∀ s' bl' π' om' a' w', K s' → Rel E s' bl' π' om' a' w' → Q .normal a' w')
    (hn : E.n = n) (hl : ∀ (i : Nat) (o : Oper), ops[i]? = some o → ∃ q, l[i]? = some q ∧ OperIs C.prog pures n ops o q) (hlen : l.length = ops.size) (hany : anyOrder l = true) :
    ∀ (fuel : Nat) {listed : Array Bool} {s : St} {bl : List Nat} {π : Nat → Nat → Prop} {om : Loc → Option Nat} {a : Act} {w : World}, listed.size = ops.size →
      (rem ops.size listed).length ≤ fuel →
      (∀ (i : Nat) (q : POp), l[i]? = some q → listed.getD i false = true → ∀ e ∈ q.after, listed.getD e false = true) →
      Rel E s bl π om a w → pwpOps C (pick l (rem ops.size listed)) K s → wpAnyIn (fence E) 0 C.prog .any ops Q fuel listed a w := by
  have hchk : ∀ (j : Nat) (q : POp), l[j]? = some q → (∀ e ∈ q.after, e < j) ∧ ∀ (i : Nat) (o : POp), i < j → l[i]? = some o → ((predsOf l []).getD j 0).testBit i = true ∨ swappable o q = true := by
    intro j q hq
    unfold anyOrder at hany
    rw [List.all_eq_true] at hany
    have := hany (q, j) (List.mem_zipIdx_iff_getElem?.2 (by simpa using hq))
    simp only [Bool.and_eq_true, List.all_eq_true, decide_eq_true_eq] at this
    refine ⟨this.1, fun i o hi ho => ?_⟩
    have h2 := this.2 (o, i) (List.mem_zipIdx_iff_getElem?.2 (by simp [List.getElem?_take, hi, ho]))
    simpa [Bool.or_eq_true] using h2
  have hgd : ∀ (listed : Array Bool) (i : Nat), listed.size = ops.size → i < ops.size → listed.getD i true = listed.getD i false := by
    intro listed i hs hi
    simp [Array.getD_eq_getD_getElem?, Array.getElem?_eq_getElem (show i < listed.size by omega)]
  have hready0 : ∀ (listed : Array Bool), listed.size = ops.size → Region.ready .any ops listed = [] → rem ops.size listed = [] := by
    intro listed hs hr
    cases hrem : rem ops.size listed with
    | nil => rfl
    | cons i rest =>
      exfalso
      have hi : i ∈ rem ops.size listed := by rw [hrem]; simp
      obtain ⟨hin, hil⟩ := mem_rem.1 hi
      have hp : (rem ops.size listed).Pairwise (· < ·) := List.Pairwise.filter _ List.pairwise_lt_range
      rw [hrem, List.pairwise_cons] at hp
      have ho : ops[i]? = some ops[i] := Array.getElem?_eq_getElem hin
      obtain ⟨q, hq, hc⟩ := hl i _ ho
      have : i ∈ Region.ready .any ops listed := by
        refine mem_ready.2 ⟨hil, _, ho, fun e he hb => ?_⟩
        have hea : e.on ∈ q.after := by rw [hc.aft]; exact List.mem_map.2 ⟨e, List.mem_filter.2 ⟨by simpa using he, hb⟩, rfl⟩
        have hlt := (hchk i q hq).1 _ hea
        cases hx : listed.getD e.on false with
        | true => rfl
        | false =>
          have hmem : e.on ∈ rem ops.size listed := mem_rem.2 ⟨by omega, by rw [hgd listed _ hs (by omega)]; exact hx⟩
          rw [hrem, List.mem_cons] at hmem
          rcases hmem with h | h
          · omega
          · have := hp.1 _ h; omega
      rw [hr] at this
      cases this
  intro fuel
  induction fuel with
  | zero =>
    intro listed s bl π om a w hs hf hd hr hp
    have h0 : rem ops.size listed = [] := List.eq_nil_of_length_eq_zero (by omega)
    rw [h0] at hp
    refine ⟨?_, hQ _ _ _ _ _ _ hp hr⟩
    rw [List.eq_nil_iff_forall_not_mem]
    intro i hi
    obtain ⟨h1, o, h2, _⟩ := mem_ready.1 hi
    have : i ∈ rem ops.size listed := mem_rem.2 ⟨(Array.getElem?_eq_some_iff.1 h2).1, h1⟩
    rw [h0] at this
    cases this
  | succ fuel ih =>
    intro listed s bl π om a w hs hf hd hr hp
    refine ⟨fun h0 => ?_, fun i hi => ?_⟩
    · rw [hready0 listed hs h0] at hp
      exact hQ _ _ _ _ _ _ hp hr
    · obtain ⟨h1, o, ho, haf⟩ := mem_ready.1 hi
      have hin : i < ops.size := (Array.getElem?_eq_some_iff.1 ho).1
      have hmem : i ∈ rem ops.size listed := mem_rem.2 ⟨hin, h1⟩
      obtain ⟨pre, post, e1, e2, e3⟩ := split_rem hmem
      obtain ⟨q, hq, hc⟩ := hl i o ho
      have hqa : ∀ e ∈ q.after, listed.getD e false = true := by
        intro e he
        rw [hc.aft, List.mem_map] at he
        obtain ⟨e', he', rfl⟩ := he
        rw [List.mem_filter] at he'
        exact haf e' (by simpa using he'.1) he'.2
      have hpk : pick l (rem ops.size listed) = pick l pre ++ q :: pick l post := by
        rw [e1]; simp [pick, List.filterMap_append, hq]
      have hsw : ∀ o' ∈ pick l pre, swappable o' q = true := by
        intro o' ho'
        simp only [pick, List.mem_filterMap] at ho'
        obtain ⟨j, hj, hjo⟩ := ho'
        obtain ⟨hji, hjr⟩ := e3 j hj
        refine ((hchk i q hq).2 j o' hji hjo).resolve_left fun hin' => ?_
        have := preds_in (fun t => t = i ∨ listed.getD t false = true) l [] (by intro i _ t ht; simp at ht) (fun k q' hk hS e he => by
          simp only [List.length_nil, Nat.zero_add] at hS
          rcases hS with rfl | hS
          · rw [hq] at hk; cases hk; exact .inr (hqa e he)
          · exact .inr (hd k q' hk hS e he)) i (.inl rfl) j hin'
        rcases this with h | h
        · omega
        · have hj2 := mem_rem.1 hjr
          rw [hgd listed j hs hj2.1, h] at hj2
          exact absurd hj2.2 (by simp)
      rw [hpk] at hp
      have hp' := moveFront _ _ hsw hp
      refine opSound hr hE hok ho (hn ▸ hc) hp' (fun s' bl' π' om' a' w' hk hr' => ?_)
      have hrem' : rem ops.size (listed.setIfInBounds i true) = pre ++ post := by rw [rem_set (by omega), e2]
      refine ih (by simpa using hs) ?_ ?_ hr' ?_
      · rw [hrem']
        rw [e1] at hf
        simp at hf ⊢
        omega
      · intro k q' hk hkl e he
        have hset : ∀ x, listed.getD x false = true → (listed.setIfInBounds i true).getD x false = true := by
          intro x hx
          by_cases e : i = x
          · subst e; simp [Array.getD_eq_getD_getElem?, Array.getElem?_setIfInBounds, show i < listed.size by omega]
          · rw [Array.getD_eq_getD_getElem?, Array.getElem?_setIfInBounds_ne e, ← Array.getD_eq_getD_getElem?]; exact hx
        by_cases hki : i = k
        · subst hki
          rw [hq] at hk
          cases hk
          exact hset e (hqa e he)
        · refine hset e (hd k q' hk ?_ e he)
          rw [Array.getD_eq_getD_getElem?, Array.getElem?_setIfInBounds_ne hki, ← Array.getD_eq_getD_getElem?] at hkl
          exact hkl
      · rw [hrem']
        unfold pick
        rw [List.filterMap_append]
        exact hk

theorem Rel.drawn (h : Rel E s bl π om a w) : Rel E s bl π om a { w with drawn := w.drawn + 1 } := by
  refine h.grow ?_
  exact ⟨rfl, rfl, rfl, Nat.le_refl _, fun _ _ => rfl⟩

theorem regionSound {n : Nat} (hm : C.prog.follows .mixedOrders = true) (hE : E.Y = C.Y) (hok : EOk C.prog E) (hn : E.n = n) (h : Rel E s bl π om a w) {id : Nat} {draw : Bool} {l : List POp} {K : St → Prop} {Q : Exit → Act → World → Prop}
    (hl : ops.toList.mapM (compOper C.prog pures n ops) = some l) (hd : draw = false ∨ anyOrder l = true) (hp : pwpOps C l K s)
    (hQ : ∀ s' bl' π' om' a' w', K s' → Rel E s' bl' π' om' a' w' → Q .normal a' w') : (Code.region id ops draw).wpIn (fence E) 0 C.prog Q a w := by
  obtain ⟨l1, l2⟩ := mapM_spec hl
  have hlen : l.length = ops.size := by simpa using l1
  have hl' : ∀ (i : Nat) (o : Oper), ops[i]? = some o → ∃ q, l[i]? = some q ∧ OperIs C.prog pures n ops o q := fun i o ho => by
    obtain ⟨q, h1, h2⟩ := l2 i o (by simpa using ho)
    exact ⟨q, h1, compOper_spec h2⟩
  cases draw with
  | false =>
    refine wpIn_region ?_
    have := textSound hE hok l hQ hn hl' hlen l.length (Nat.le_refl _) h (by simpa using hp)
    rw [List.range_eq_range', ← hlen]
    simpa using this
  | true =>
    refine wpIn_region_any hm ?_
    have hrem : rem ops.size (Array.replicate ops.size false) = List.range ops.size := by
      unfold rem
      refine List.filter_eq_self.2 fun i hi => ?_
      rw [List.mem_range] at hi
      simp [Array.getD_eq_getD_getElem?, hi]
    have hpick : pick l (List.range l.length) = l := pick_all l
    refine anySound hE hok l hQ hn hl' hlen (hd.resolve_left (by simp)) ops.size (by simp) (by rw [hrem]; simp) ?_ h.drawn ?_
    · intro i q hq hx
      rw [Array.getD_eq_getD_getElem?, Array.getElem?_replicate] at hx
      split at hx <;> simp at hx
    · rw [hrem, ← hlen, hpick]; exact hp

end
end Go.Pi
/- A function's body, and a call of it. -/
namespace Go.Pi
open Go.RowKit

section
variable {C : Cx} {pures : List Nat} {n : Nat}

theorem pwp_sound (hm : C.prog.follows .mixedOrders = true) : ∀ (pc : PCode) {Q : Ex → St → Prop} {s : St}, pwp C pures n pc Q s → SemW C pures n pc Q s := by
  intro pc
  induction pc with
  | skip =>
    intro Q s h c hc E bl π om a w hn hY hok hr
    cases c <;> simp [compCode, Option.bind_eq_some_iff, Option.map_eq_some_iff] at hc
    exact wpIn_skip ⟨.normal, _, _, _, _, rfl, h, hr⟩
  | reg draw ops =>
    intro Q s h c hc E bl π om a w hn hY hok hr
    cases c <;> simp only [compCode, Option.bind_eq_bind, Option.bind_eq_some_iff, Option.map_eq_some_iff] at hc <;> try (simp at hc; done)
    obtain ⟨l, hl, hc⟩ := hc
    split at hc
    · rename_i hcond
      cases hc
      refine regionSound hm hY.1 hok hn hr hl ?_ h (fun s' bl' π' om' a' w' hk hr' => ⟨.normal, s', bl', π', om', rfl, hk, hr'⟩)
      rw [Bool.or_eq_true] at hcond
      exact hcond.imp (by simp) id
    · cases hc
  | seq x y ihx ihy =>
    intro Q s h c hc E bl π om a w hn hY hok hr
    cases c <;> simp only [compCode, Option.bind_eq_bind, Option.bind_eq_some_iff, Option.map_eq_some_iff] at hc <;> try (simp at hc; done)
    obtain ⟨x', hx, y', hy, hc⟩ := hc
    cases hc
    refine wpIn_seq (wpIn_mono (ihx h _ hx E bl π om a w hn hY hok hr) ?_)
    rintro e a' w' ⟨ex, s', bl', π', om', rfl, hq, hr'⟩
    cases ex with
    | normal => exact ihy hq _ hy E bl' π' om' a' w' hn hY hok hr'
    | exit i => exact ⟨Ex.exit i, _, _, _, _, rfl, hq, hr'⟩
    | ret => exact ⟨.ret, _, _, _, _, rfl, hq, hr'⟩
  | cond x y z ihy ihz =>
    intro Q s h c hc E bl π om a w hn hY hok hr
    cases c <;> simp only [compCode, Option.bind_eq_bind, Option.bind_eq_some_iff, Option.map_eq_some_iff] at hc <;> try (simp at hc; done)
    obtain ⟨c', hc', y', hy, z', hz, hc⟩ := hc
    cases hc
    obtain ⟨t, ht, h1, h2⟩ := h
    have hv := hr.arg hc'
    rw [ht] at hv
    rename_i cnd _ _
    generalize hev : a.eval cnd = u at hv
    cases hv
    refine wpIn_cond hev ?_
    cases t with
    | true => exact ihy (h1 rfl) _ hy E bl π om a w hn hY hok hr
    | false => exact ihz (h2 rfl) _ hz E bl π om a w hn hY hok hr
  | block id x ih =>
    intro Q s h c hc E bl π om a w hn hY hok hr
    cases c <;> simp only [compCode, Option.bind_eq_bind, Option.bind_eq_some_iff, Option.map_eq_some_iff] at hc <;> try (simp at hc; done)
    obtain ⟨x', hx, hc⟩ := hc
    cases hc
    refine wpIn_block (wpIn_mono (ih h _ hx E bl π om a w hn hY hok hr) ?_)
    rintro e a' w' ⟨ex, s', bl', π', om', rfl, hq, hr'⟩
    cases ex with
    | normal => exact ⟨.normal, _, _, _, _, rfl, hq, hr'⟩
    | exit i =>
      by_cases hi : i = id
      · simp only [hi, if_true] at hq
        simp only [Ex.to, Exit.inBlock, hi, if_true]
        exact ⟨.normal, _, _, _, _, rfl, hq, hr'⟩
      · simp only [hi, if_false] at hq
        simp only [Ex.to, Exit.inBlock, hi, if_false]
        exact ⟨.exit i, _, _, _, _, rfl, hq, hr'⟩
    | ret => exact ⟨.ret, _, _, _, _, rfl, hq, hr'⟩
  | loop x ih => intro Q s h; exact h
  | rangef f ps x y ihx ihy => intro Q s h; exact h
  | exit id =>
    intro Q s h c hc E bl π om a w hn hY hok hr
    cases c <;> simp [compCode, Option.bind_eq_some_iff, Option.map_eq_some_iff] at hc
    subst hc
    exact wpIn_exit ⟨.exit _, _, _, _, _, rfl, h, hr⟩
  | ret =>
    intro Q s h c hc E bl π om a w hn hY hok hr
    cases c <;> simp [compCode, Option.bind_eq_some_iff, Option.map_eq_some_iff] at hc
    exact wpIn_ret ⟨.ret, _, _, _, _, rfl, h, hr⟩

/-- A loop: an invariant that bears a number. -/
theorem pwp_loop (hm : C.prog.follows .mixedOrders = true) {pc : PCode} {Q : Ex → St → Prop} {s : St} (I : Nat → St → Prop) (k : Nat) (h0 : I k s)
    (round : ∀ k s, I k s → pwp C pures n pc (fun ex s' => match ex with | .normal => ∃ k', k' < k ∧ I k' s' | ex => Q ex s') s) : pwp C pures n (.loop pc) Q s := by
  intro c hc E bl π om a w hn hY hok hr
  cases c <;> simp only [compCode, Option.bind_eq_bind, Option.bind_eq_some_iff, Option.map_eq_some_iff] at hc <;> try (simp at hc; done)
  obtain ⟨x', hx, hc⟩ := hc
  cases hc
  refine wpIn_loop_ghost (fun k a w => ∃ s bl π om, I k s ∧ Rel E s bl π om a w) k ⟨s, bl, π, om, h0, hr⟩ ?_
  rintro k a w ⟨s, bl, π, om, hI, hr⟩
  refine wpIn_mono (pwp_sound hm pc (round k s hI) _ hx E bl π om a w hn hY hok hr) ?_
  rintro e a' w' ⟨ex, s', bl', π', om', rfl, hq, hr'⟩
  cases ex with
  | normal =>
    obtain ⟨k', hk, hI'⟩ := hq
    exact ⟨k', hk, s', bl', π', om', hI', hr'⟩
  | exit i => exact ⟨.exit i, _, _, _, _, rfl, hq, hr'⟩
  | ret => exact ⟨.ret, _, _, _, _, rfl, hq, hr'⟩

theorem semW_mono {pc : PCode} {Q Q' : Ex → St → Prop} {s : St} (hq : ∀ ex s, Q ex s → Q' ex s) (h : SemW C pures n pc Q s) : SemW C pures n pc Q' s :=
  fun c hc E bl π om ac w hn hY hok hr => wpIn_mono (h c hc E bl π om ac w hn hY hok hr) (by
      rintro e a' w' ⟨ex, s', bl', π', om', he, hq', hr'⟩
      exact ⟨ex, s', bl', π', om', he, hq _ _ hq', hr'⟩)

theorem pwp_mono : ∀ (pc : PCode) {Q Q' : Ex → St → Prop} {s : St}, (∀ ex s, Q ex s → Q' ex s) → pwp C pures n pc Q s → pwp C pures n pc Q' s
  | .skip, _, _, _, hq, h => hq _ _ h
  | .reg _ ops, _, _, _, hq, h => pwpOps_mono (fun s => hq .normal s) h
  | .seq a b, _, _, _, hq, h => pwp_mono a (fun ex s h => by cases ex with | normal => exact pwp_mono b hq h | exit i => exact hq _ _ h | ret => exact hq _ _ h) h
  | .cond c a b, _, _, _, hq, ⟨t, h0, h1, h2⟩ => ⟨t, h0, fun h => pwp_mono a hq (h1 h), fun h => pwp_mono b hq (h2 h)⟩
  | .block id a, _, _, _, hq, h => pwp_mono a (fun ex s h => by
      cases ex with
      | normal => exact hq _ _ h
      | exit i =>
        by_cases hi : i = id
        · simp only [hi, if_true] at h ⊢; exact hq _ _ h
        · simp only [hi, if_false] at h ⊢; exact hq _ _ h
      | ret => exact hq _ _ h) h
  | .loop a, _, _, _, hq, h => semW_mono hq h
  | .rangef .., _, _, _, hq, h => semW_mono hq h
  | .exit id, _, _, _, hq, h => hq _ _ h
  | .ret, _, _, _, hq, h => hq _ _ h

end

section
variable {P : Program} {pures : List Nat} {n : Nat}

/-! ### A call -/

inductive RV where
  | tmp (t : Nat)
  | cell (t k : Nat) (agg : Bool)
  deriving Inhabited

def compRes (P : Program) : ResultVar → Option RV
  | .tmp t => some (.tmp t)
  | .cell a t => (sizeAgg P t).map fun (k, g) => .cell a k g

def RV.get (s : St) : RV → Option PV
  | .tmp t => some (s.t t).strip
  | .cell a k g => loadPV s.H (s.t a) k g

def pack : List PV → PV
  | [p] => p
  | l => .tup l

def startSt (args : List PV) (H : List PObj) : St := { t := fun i => (args.getD i .junk).strip, H := H }

variable {E : Ent} {s : St} {bl : List Nat} {π : Nat → Nat → Prop} {om : Loc → Option Nat} {a : Act} {w : World}

theorem load_ptr (h : Rel E s bl π om a w) {t : TypeId} {q : PV} {u : Value} {k : Nat} {g : Bool} {p : PV} (h1 : VRel w bl π q u) (hk : sizeAgg P t = some (k, g))
    (hp : loadPV s.H q k g = some p) : ∃ ad v, u = .pointer (some ad) ∧ (loadVar t ad).run P w = .ok v w ∧ VRel w bl π p v := by
  have fin : ∀ {b off base : Nat} {cs : List PV}, u = .pointer (some ⟨b, base + off, none⟩) → (cellsAt cs off k).bind (fun l => mkAgg g (l.map PV.strip)) = some p →
      (∀ (i : Nat) (z : PV), cs[i]? = some z → ∃ u, w.cell? ⟨b, base + i, none⟩ = some u ∧ VRel w bl π z u) → ∃ ad v, u = .pointer (some ad) ∧ (loadVar t ad).run P w = .ok v w ∧ VRel w bl π p v := by
    intro b off base cs hx hb hc
    simp only [Option.bind_eq_some_iff] at hb
    obtain ⟨l, hl, hm⟩ := hb
    obtain ⟨vs, g1, g2, g3⟩ := load_cells hl hc
    obtain ⟨v, hr, hv⟩ := run_loadVar (w := w) hk g1 g2
    obtain ⟨r1, r2⟩ := mkAgg_rel hm (by rw [g1, (cellsAt_spec hl).1]) g3 hv
    exact ⟨_, v, hx, hr, r1⟩
  unfold loadPV at hp
  split at hp
  · rename_i id off
    simp only [Option.bind_eq_some_iff] at hp
    obtain ⟨cs, hcs, hp⟩ := hp
    cases h1 with
    | ptr hb =>
      rename_i b
      unfold objCells at hcs
      split at hcs
      · rename_i cs' hH
        cases hcs
        obtain ⟨arr, t', e1, e2, e3⟩ := h.ob id _ b hH hb
        refine fin (b := b) (off := off) (base := 0) (cs := cs) (by simp) (by simpa only [Option.bind_eq_some_iff] using hp) (fun i z hz => ?_)
        have hi : i < arr.size := by rw [e2]; exact (List.getElem?_eq_some_iff.1 hz).1
        refine ⟨arr[i], by simp [World.kell, World.cell?, World.frozen?, e1, hi], (e3 i z _ hz (by simp [hi])).1⟩
      · cases hcs
  · rename_i cs off
    cases h1 with
    | ept cv hc hr =>
      exact fin rfl hp (fun i z hz => ⟨cv i, kell_cell (hc i (List.getElem?_eq_some_iff.1 hz).1).2, hr i z hz⟩)
  · cases hp

theorem run_resvar (h : Rel E s bl π om a w) {F : ResultVar → Sem Value} (f1 : ∀ t, F (.tmp t) = pure (a.tmps.getD t undef)) (f2 : ∀ ad t, F (.cell ad t) = do loadVar t (← asAddr (a.tmps.getD ad undef)))
    {rv : ResultVar} {r : RV} {p : PV} (hc : compRes P rv = some r) (hp : r.get s = some p) : ∃ v, (F rv).run P w = .ok v w ∧ VRel w bl π p v := by
  cases rv with
  | tmp t =>
    simp only [compRes, Option.some.injEq] at hc
    subst hc
    simp only [RV.get, Option.some.injEq] at hp
    subst hp
    exact ⟨_, by rw [f1]; rfl, (h.tm t).1.strip⟩
  | cell ad t =>
    simp only [compRes, Option.map_eq_some_iff] at hc
    obtain ⟨⟨k, g⟩, hk, rfl⟩ := hc
    simp only [RV.get] at hp
    obtain ⟨x, v, h1, h2, h3⟩ := load_ptr h (h.tm ad).1 hk hp
    refine ⟨v, ?_, h3⟩
    rw [f2, h1]
    simp [asAddr, h2]

theorem run_resvars (h : Rel E s bl π om a w) {F : ResultVar → Sem Value} (f1 : ∀ t, F (.tmp t) = pure (a.tmps.getD t undef)) (f2 : ∀ ad t, F (.cell ad t) = do loadVar t (← asAddr (a.tmps.getD ad undef))) :
    ∀ {rvs : List ResultVar} {rs : List RV} {ps : List PV}, rvs.mapM (compRes P) = some rs → rs.mapM (RV.get s) = some ps →
    ∃ vs : List Value, (rvs.mapM F).run P w = .ok vs w ∧ vs.length = ps.length ∧ ∀ (i : Nat) (z : PV) (u : Value), ps[i]? = some z → vs[i]? = some u → VRel w bl π z u
  | [], rs, ps, h1, h2 => by
    simp at h1; subst h1
    simp at h2; subst h2
    exact ⟨[], rfl, rfl, fun i z u hz => by simp at hz⟩
  | rv :: rvs, rs, ps, h1, h2 => by
    simp only [List.mapM_cons, Option.pure_def, Option.bind_eq_bind, Option.bind_eq_some_iff] at h1
    obtain ⟨r, hr, rs', hrs, e⟩ := h1
    cases e
    simp only [List.mapM_cons, Option.pure_def, Option.bind_eq_bind, Option.bind_eq_some_iff] at h2
    obtain ⟨p, hp, ps', hps, e⟩ := h2
    cases e
    obtain ⟨v, k1, k2⟩ := run_resvar h f1 f2 hr hp
    obtain ⟨vs, m1, m2, m3⟩ := run_resvars h f1 f2 hrs hps
    refine ⟨v :: vs, ?_, by simp [m2], fun i z u hz hu => ?_⟩
    · rw [List.mapM_cons]
      simp [k1, m1]
    · cases i with
      | zero => simp at hz hu; subst hz; subst hu; exact k2
      | succ i => exact m3 i z u (by simpa using hz) (by simpa using hu)

theorem run_results (h : Rel E s bl π om a w) {fn : Func} {rs : List RV} {ps : List PV} (h1 : fn.results.toList.mapM (compRes P) = some rs) (h2 : rs.mapM (RV.get s) = some ps) :
    ∃ v, (results fn a.tmps).run P w = .ok v w ∧ VRel w bl π (pack ps) v := by
  unfold results
  rw [Array.mapM_eq_mapM_toList, Sem.run_bind, Sem.run_map]
  generalize hF : (fun x : ResultVar => (match x with | .tmp t => (pure (a.tmps.getD t undef) : Sem Value) | .cell ad t => do loadVar t (← asAddr (a.tmps.getD ad undef)) : Sem Value)) = F
  obtain ⟨vs, m1, m2, m3⟩ := run_resvars h (F := F) (fun t => by rw [← hF]) (fun ad t => by rw [← hF]) h1 h2
  rw [m1]
  refine ⟨_, rfl, ?_⟩
  match ps, vs, m2, m3 with
  | [], [], _, _ =>
    simp [pack]
    exact .tup rfl (fun i z u hz => by simp at hz)
  | [p], [v], _, m3 =>
    simp [pack]
    exact m3 0 p v rfl rfl
  | p :: p' :: ps, v :: v' :: vs, m2, m3 =>
    simp [pack]
    exact .tup (by simpa using m2) (fun i z u hz hu => m3 i z u hz (by simpa using hu))

theorem startRel {args : List PV} {H : List PObj} {cargs : Array Value} {n : Nat} {O : Nat → Prop} {ro : Option Nat} {Y : Nat → List PV → List PObj → (PV → List PObj → Prop) → Prop} (hH : HRel w bl π O H) (ha : ArgsRel w bl π args cargs) (hn : args.length ≤ n) :
    ∃ om, Rel { w := w, bl := bl, π := π, O := O, H := H, n := n, round := ro, Y := Y } (startSt args H) bl π om { tmps := cargs ++ Array.replicate (n - cargs.size) undef, defers := [] } w := by
  obtain ⟨om, k1, k2, k3, _, k4⟩ := hH.ob
  refine ⟨fun ℓ => match ℓ with | .t _ => none | .c i o => om i o, ?_⟩
  exact {
    dfr := .nil
    sz := by simp; have := ha.1; omega
    tm := fun t => by
      have h1 := ha.1
      by_cases hlt : t < args.length
      · have e1 : args[t]? = some args[t] := List.getElem?_eq_getElem hlt
        have e2 : cargs[t]? = some cargs[t] := Array.getElem?_eq_getElem (by omega)
        have hv := ha.2 t _ _ e1 e2
        have e3 : (startSt args H).t t = args[t].strip := by simp [startSt, List.getD_eq_getElem?_getD, e1]
        have e4 : (cargs ++ Array.replicate (n - cargs.size) undef).getD t undef = cargs[t] := by
          rw [Array.getD_eq_getD_getElem?, Array.getElem?_append_left (by omega), e2]; rfl
        rw [e3]
        simp only
        rw [e4]
        exact .plain hv.strip (PV.strip_ne _)
      · have e3 : (startSt args H).t t = .junk := by simp [startSt, List.getD_eq_getElem?_getD, List.getElem?_eq_none (Nat.le_of_not_lt hlt), PV.strip]
        rw [e3]
        exact .plain (.junk _) (.of fun xs e => by cases e)
    len := hH.len
    nd := hH.nd
    lt := hH.lt
    ob := k4
    pr := hH.pr
    inj := fun ℓ ℓ' b h1 h2 => by
      cases ℓ <;> cases ℓ' <;> simp at h1 h2
      obtain ⟨rfl, rfl⟩ := k1 _ _ _ _ b h1 h2
      rfl
    omw := fun ℓ b h => by
      cases ℓ with
      | t n => cases h
      | c i o =>
        obtain ⟨g1, g2, g3⟩ := k2 _ _ _ h
        exact ⟨g2, .inr g1, g3⟩
    omc := fun i o hi => k3 i o hi
    fr := Frame'.refl
    el := hH.len }

/-- A Go function of the program, its compact form at hand. -/
structure FnIs (P : Program) (pures : List Nat) (f : Nat) (n : Nat) (pc : PCode) (rs : List RV) : Prop where
  mk ::
  ex : ∃ fn c, P.funcs[f]? = some fn ∧ (fn.name == "runtime.NumGoroutine") = false ∧ fn.body = some c ∧ fn.ntmps = n ∧ compCode P pures n c = some pc ∧ fn.results.toList.mapM (compRes P) = some rs

/-- A mark is come to. -/
theorem Rel.unmark {D : Nat} {ds : List Deferred} (h : Rel E s bl π om a w) (hd : a.defers = mark D :: ds) :
    (Instr.takeDeferred D).run P w = .ok [] (w.putObj D (.deferred none)) ∧ Rel E s bl π om { a with defers := ds } (w.putObj D (.deferred none)) := by
  obtain ⟨e00, Ds, e1, e2, e3⟩ := h.dfr
  rw [hd] at e1 e00
  match Ds, e1 with
  | D' :: Ds, e1 =>
    simp only [List.map_cons, List.cons.injEq] at e1
    obtain ⟨e0, rfl⟩ := e1
    have : D = D' := by simp [mark] at e0; exact e0
    subst this
    obtain ⟨g1, g2, g3⟩ := e3 D (by simp)
    have hlt := (Array.getElem?_eq_some_iff.1 g3).1
    refine ⟨run_takeDeferred g3, ?_⟩
    have hne : ∀ b', b' ≠ D → (w.putObj D (.deferred none)).heap[b']? = w.heap[b']? := fun b' hb => World.putObj_heap_other hb
    have hcell : ∀ b' o, (w.putObj D (.deferred none)).kell ⟨b', o, none⟩ = w.kell ⟨b', o, none⟩ := fun b' o => by
      by_cases e : b' = D
      · subst e
        simp [World.kell, World.cell?, World.frozen?, g3, World.putObj_heap_same hlt]
      · exact cell_of_block (hne b' e)
    have own : ∀ ℓ b, om ℓ = some b → b ≠ D := fun ℓ b hb e => by
      obtain ⟨⟨cs, t, hc⟩, _⟩ := h.omw ℓ b hb
      rw [e, g3] at hc
      cases hc
    have mv : ∀ {ℓ p v}, LRel w bl π s.H (om ℓ) p v → LRel (w.putObj D (.deferred none)) bl π s.H (om ℓ) p v :=
      fun {ℓ _ _} hl => hl.move (fun _ _ h => h) (fun _ _ h => h) (fun b o _ => hcell b o) (fun b' hob hL' _ => ⟨hne b' (own ℓ b' hob), hL', fun _ h => h⟩)
    exact {
      dfr := ⟨fun hr => absurd (e00 hr) (by simp), Ds, rfl, (List.nodup_cons.1 e2).2, fun D' hD' => by
        obtain ⟨k1, k2, k3⟩ := e3 D' (by simp [hD'])
        have : D' ≠ D := fun e => (List.nodup_cons.1 e2).1 (e ▸ hD')
        exact ⟨k1, k2, (hne D' this).trans k3⟩⟩
      sz := h.sz
      tm := fun t => mv (h.tm t)
      len := h.len
      nd := h.nd
      lt := fun b hm => by simp; exact h.lt b hm
      ob := fun id o b ho hb => (h.ob id o b ho hb).move (fun _ _ _ hl => mv hl) (fun _ _ hl => hl.mono (fun _ _ h => h) (fun _ _ h => h) (fun b o _ => hcell b o))
        (fun _ => hne b (fun e => g2 (e ▸ List.mem_of_getElem? hb))) (by simp)
      pr := fun b o hp => ⟨(h.pr b o hp).1, by simp; exact (h.pr b o hp).2⟩
      inj := h.inj
      omw := fun ℓ b hb => by
        obtain ⟨⟨cs, t, hc⟩, k⟩ := h.omw ℓ b hb
        exact ⟨⟨cs, t, (hne b (own ℓ b hb)).trans hc⟩, k⟩
      omc := h.omc
      fr := { h.fr with
        size := by simp; exact h.fr.size
        block := fun b hb hL hO => (hne b (by omega)).trans (h.fr.block b hb hL hO)
        cell := fun b o hp => (hcell b o).trans (h.fr.cell b o hp) }
      el := h.el }

theorem leavesMarks {F : Fence} {m : Nat} {fn : Func} {R : Ending → World → Prop} : ∀ (Ds : List Nat) {a : Act} {w : World}, a.defers = Ds.map mark → Rel E s bl π om a w →
    (∀ w', Rel E s bl π om { a with defers := [] } w' → LeavesInM F m P fn a.tmps R [] .returning w') → LeavesInM F m P fn a.tmps R a.defers .returning w
  | [], a, w, hd, h, hk => by
    have : a.defers = [] := hd
    rw [this]
    have h' : ({ a with defers := [] } : Act) = a := by cases a; simp_all
    exact hk w (by rw [h']; exact h)
  | D :: Ds, a, w, hd, h, hk => by
    rw [List.map_cons] at hd
    obtain ⟨h1, h2⟩ := h.unmark (P := P) hd
    rw [hd]
    refine ⟨by simp, .inl ⟨D, _, rfl, h1, ?_⟩⟩
    exact leavesMarks Ds (a := { a with defers := Ds.map mark }) rfl h2 hk

end

section
variable {C : Cx} {P : Program} {pures : List Nat} {n : Nat} {E : Ent} {s : St} {bl : List Nat} {π : Nat → Nat → Prop} {om : Loc → Option Nat} {a : Act} {w : World}

/-- No loop's body is called. -/
def noY : Nat → List PV → List PObj → (PV → List PObj → Prop) → Prop := fun _ _ _ _ => False

theorem EOk.noY (hY : E.Y = noY) : EOk P E := fun w bl π O H id b args cargs R _ _ _ _ _ h => by rw [hY] at h; exact h.elim

theorem run_enter {f : FuncId} {fn : Func} {c : Code} (hf : P.funcs[f]? = some fn) (hname : (fn.name == "runtime.NumGoroutine") = false) (hb : fn.body = some c) (args : Array Value) (w : World) :
    (callFunc f args).run P w = .ok (.enter f args) w := by
  have h1 : fn.name ≠ "runtime.NumGoroutine" := by simpa using hname
  simp [callFunc, hf, h1, hb]

/-- A body's walk, as a call. -/
theorem calls_of_pwp (hm : C.prog.follows .mixedOrders = true) {f : Nat} {fn : Func} {c : Code} {pc : PCode} {rs : List RV} (h1 : C.prog.funcs[f]? = some fn) (h3 : fn.body = some c) (h4 : fn.ntmps = n) (h5 : compCode C.prog pures n c = some pc) (h6 : fn.results.toList.mapM (compRes C.prog) = some rs)
    {args : List PV} {H : List PObj} {R : PV → List PObj → Prop} (hlen : args.length ≤ n) {O : Nat → Prop} {cargs : Array Value} (hH : HRel w bl π O H) (ha : ArgsRel w bl π args cargs)
    (hok : EOk C.prog { w := w, bl := bl, π := π, O := O, H := H, n := n, round := none, Y := C.Y })
    (hp : pwp C pures n pc (fun ex s => (ex = .normal ∨ ex = .ret) ∧ ∃ ps, rs.mapM (RV.get s) = some ps ∧ R (pack ps) s.H) (startSt args H)) :
    Calls C.prog f cargs w fun e w' => ∃ v, e = .returned v ∧ After w bl π O H R v w' := by
  refine (callsIn_wide (n := 0)).1 (callsIn_of_wp_marks h1 h3 trivial ?_ rfl)
  obtain ⟨om, hrel⟩ := startRel (ro := none) (Y := C.Y) hH ha hlen
  rw [h4]
  refine wpIn_mono (pwp_sound hm pc hp c h5 { w := w, bl := bl, π := π, O := O, H := H, n := n, round := none, Y := C.Y } bl π om _ w rfl ⟨rfl, fun _ => rfl⟩ hok hrel) ?_
  rintro e a' w' ⟨ex, s', bl', π', om', rfl, ⟨hex, ps, hps, hR⟩, hr⟩
  obtain ⟨_, Ds, hDs, _, _⟩ := hr.dfr
  have fin : LeavesInM Fence.wide 0 C.prog fn a'.tmps (fun e w' => ∃ v, e = .returned v ∧ After w bl π O H R v w') a'.defers .returning w' := by
    refine leavesMarks Ds hDs hr (fun w2 hr2 => ?_)
    obtain ⟨v, hv1, hv2⟩ := run_results (fn := fn) hr2 h6 hps
    refine ⟨v, hv1, v, rfl, _, _, bl', π', _, hR, hv2, hr2.toH, fun b ⟨id, off, hb⟩ => ?_, hr2.fr⟩
    rcases (hr2.omw _ _ hb).2.1 with g | g
    · exact .inr g
    · exact .inl g
  rcases hex with rfl | rfl
  · exact fin
  · exact fin

/-- A call of f, by its compact form. -/
theorem Sum.of_pwp (hm : P.follows .mixedOrders = true) {f : Nat} {pc : PCode} {rs : List RV} (hf : FnIs P pures f n pc rs) {args : List PV} {H : List PObj} {R : PV → List PObj → Prop} (hlen : args.length ≤ n)
    (hp : pwp ⟨P, noY, True⟩ pures n pc (fun ex s => (ex = .normal ∨ ex = .ret) ∧ ∃ ps, rs.mapM (RV.get s) = some ps ∧ R (pack ps) s.H) (startSt args H)) : Sum P f args H R := by
  obtain ⟨fn, c, h1, h2, h3, h4, h5, h6⟩ := hf.ex
  intro w bl π O cargs hH ha
  exact .inl ⟨run_enter h1 h2 h3 cargs w, calls_of_pwp (C := ⟨P, noY, True⟩) hm h1 h3 h4 h5 h6 hlen hH ha (EOk.noY rfl) hp⟩

end
end Go.Pi
