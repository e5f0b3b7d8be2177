import Derived.Test.YtcmkgbboldchbaaGreatDoorA4
import Derived.Laws.Strings
import Derived.MapKept
set_option linter.unusedSimpArgs false
set_option linter.unusedVariables false
/- A range over a function. -/
namespace Go.Pi
open Go.RowKit

/-- What a round leaves as it was. -/
structure Keep (rd : List Nat) (n : Nat) (H H' : List PObj) : Prop where
  len : H.length ≤ H'.length
  rest : ∀ id : Nat, n ≤ id → id < H.length → H'[id]? = H[id]?
  rd : ∀ id ∈ rd, H'[id]? = H[id]?

/-- A call that is handed a loop's body. -/
def SumY (P : Program) (Y : Nat → List PV → List PObj → (PV → List PObj → Prop) → Prop) (f : FuncId) (args : List PV) (H : List PObj) (R : PV → List PObj → Prop) : Prop :=
  ∀ (w : World) (bl : List Nat) (π : Nat → Nat → Prop) (O : Nat → Prop) (cargs : Array Value), HRel w bl π O H → ArgsRel w bl π args cargs →
    EOk P { w := w, bl := bl, π := π, O := O, H := H, n := 0, round := none, Y := Y } → (callFunc f cargs).run P w = .ok (.enter f cargs) w ∧ Calls P f cargs w fun e w' => ∃ v, e = .returned v ∧ After w bl π O H R v w'

/-- An iterator: S: all that may come of it; Sp: what may have come so far; rd: the objects that it looks at. -/
def Iter (P : Program) (g : Nat) (cap : List PV) (H1 : List PObj) (rd : List Nat) (S Sp : List (List PV) → Prop) : Prop :=
  ∀ (Y : Nat → List PV → List PObj → (PV → List PObj → Prop) → Prop) (lid : Nat) (I : List (List PV) → List PObj → Prop) (X : List PObj → Prop), lid < H1.length →
    (∀ pre H' H'', I pre H' → (∀ id, id < H1.length → H''[id]? = H'[id]?) → I pre H'') → (∀ H' H'', X H' → (∀ id, id < H1.length → H''[id]? = H'[id]?) → X H'') → I [] H1 →
    (∀ pre x H', Sp (pre ++ [x]) → I pre H' → H1.length ≤ H'.length → (∀ id ∈ rd, H'[id]? = H1[id]?) →
      (∃ (r : PV) (H'' : List PObj), Keep rd H1.length H' H'' ∧ ((r = .v (.bool true) ∧ I (pre ++ [x]) H'') ∨ (r = .v (.bool false) ∧ X H''))) ∧ Y lid x H' fun r H'' => Keep rd H1.length H' H'' ∧ ((r = .v (.bool true) ∧ I (pre ++ [x]) H'') ∨ (r = .v (.bool false) ∧ X H''))) →
    SumY P Y g (.yld lid :: cap) H1 fun _ H' => H1.length ≤ H'.length ∧ (∀ id ∈ rd, H'[id]? = H1[id]? ∨ X H') ∧ ((∃ xs, S xs ∧ I xs H') ∨ X H')

section
variable {P : Program} {pures : List Nat} {n : Nat} {E : Ent} {s : St} {bl : List Nat} {π : Nat → Nat → Prop} {om : Loc → Option Nat} {a : Act} {w : World}

theorem live_dead {H : List PObj} {bl : List Nat} {l b : Nat} : Live bl (H.set l .dead) b → Live bl H b := by
  rintro ⟨id, o, h1, h2, h3⟩
  by_cases e : l = id
  · subst e
    rw [List.getElem?_set] at h2
    simp only [if_true] at h2
    split at h2
    · cases h2; exact absurd rfl h3
    · cases h2
  · rw [List.getElem?_set_ne e] at h2
    exact ⟨id, o, h1, h2, h3⟩

theorem LRel.live {w : World} {bl : List Nat} {π : Nat → Nat → Prop} {H H' : List PObj} {ob : Option Nat} {p : PV} {v : Value} (h : LRel w bl π H ob p v) (hl : ∀ b, ob = some b → ¬ Live bl H b → ¬ Live bl H' b) : LRel w bl π H' ob p v :=
  h.move (fun _ _ h => h) (fun _ _ h => h) (fun _ _ _ => rfl) (fun b hb hL _ => ⟨rfl, hl b hb hL, fun _ h => h⟩)

/-- An object is left alone. -/
theorem HRel.kill {w : World} {O : Nat → Prop} {H : List PObj} (h : HRel w bl π O H) (l : Nat) : HRel w bl π O (H.set l .dead) := by
  obtain ⟨om, k1, k2, k3, k4, k5⟩ := h.ob
  refine { len := by simp [h.len], nd := h.nd, lt := h.lt, ob := ⟨om, k1, fun i o b hb => ⟨(k2 i o b hb).1, (k2 i o b hb).2.1, fun hL => (k2 i o b hb).2.2 (live_dead hL)⟩, fun i o hi => k3 i o (by simpa using hi), k4, ?_⟩, pr := fun b o hp => ⟨fun hL => (h.pr b o hp).1 (live_dead hL), (h.pr b o hp).2⟩ }
  intro id o b ho hb
  by_cases e : l = id
  · subst e
    rw [List.getElem?_set] at ho
    simp only [if_true] at ho
    split at ho
    · cases ho; exact h.lt b (List.mem_of_getElem? hb)
    · cases ho
  · rw [List.getElem?_set_ne e] at ho
    exact (k5 id o b ho hb).move (fun i z u hz => hz.live (fun b' hb' hL hL' => hL (live_dead hL'))) (fun _ _ h => h) (fun _ => rfl) (Nat.le_refl _)

/-- The block of a loop's record is turned. -/
theorem HRel.loopSet {w : World} {O : Nat → Prop} {H : List PObj} (h : HRel w bl π O H) {l b : Nat} {r r' : Loop} (hb : bl[l]? = some b) (hH : H[l]? = some .dead) (hw : w.heap[b]? = some (.loop r)) (hπ : ∀ o, ¬ π b o) :
    HRel (w.putObj b (.loop r')) bl π O (H.set l (.raw (.loop r'))) := by
  obtain ⟨om, k1, k2, k3, k4, k5⟩ := h.ob
  have hlt := (Array.getElem?_eq_some_iff.1 hw).1
  have hne : ∀ b', b' ≠ b → (w.putObj b (.loop r')).heap[b']? = w.heap[b']? := fun b' e => World.putObj_heap_other e
  have hcell : ∀ b' o, π b' o → (w.putObj b (.loop r')).kell ⟨b', o, none⟩ = w.kell ⟨b', o, none⟩ := fun b' o hp => cell_of_block (hne b' (fun e => hπ o (e ▸ hp)))
  have lv : ∀ b', Live bl (H.set l (.raw (.loop r'))) b' → Live bl H b' ∨ b' = b := by
    rintro b' ⟨id, o, h1, h2, h3⟩
    by_cases e : l = id
    · subst e; rw [hb] at h1; cases h1; exact .inr rfl
    · rw [List.getElem?_set_ne e] at h2; exact .inl ⟨id, o, h1, h2, h3⟩
  have own : ∀ i o b', om i o = some b' → b' ≠ b := fun i o b' hb' e => by
    obtain ⟨_, ⟨cs, t, hc⟩, _⟩ := k2 i o b' hb'
    rw [e, hw] at hc; cases hc
  have mv : ∀ {i o p v}, LRel w bl π H (om i o) p v → LRel (w.putObj b (.loop r')) bl π (H.set l (.raw (.loop r'))) (om i o) p v :=
    fun {i o _ _} hl => hl.move (fun _ _ h => h) (fun _ _ h => h) hcell (fun b' hob hL _ => ⟨hne b' (own i o b' hob), fun hL' => by
      rcases lv b' hL' with h | h
      · exact hL h
      · exact own i o b' hob h, fun _ h => h⟩)
  refine { len := by simp [h.len], nd := h.nd, lt := fun b' hm => by simp; exact h.lt b' hm, ob := ⟨om, k1, fun i o b' hb' => ?_, fun i o hi => k3 i o (by simpa using hi), k4, ?_⟩, pr := fun b' o hp => ⟨fun hL => ?_, by simp; exact (h.pr b' o hp).2⟩ }
  · obtain ⟨g1, ⟨cs, t, g2⟩, g3⟩ := k2 i o b' hb'
    refine ⟨g1, ⟨cs, t, (hne b' (own i o b' hb')).trans g2⟩, fun hL => ?_⟩
    rcases lv b' hL with h | h
    · exact g3 h
    · exact own i o b' hb' h
  · intro id o b' ho hb'
    by_cases e : l = id
    · subst e
      rw [List.getElem?_set_self (List.getElem?_eq_some_iff.1 hH).1] at ho
      cases ho
      rw [hb] at hb'
      cases hb'
      exact World.putObj_heap_same hlt
    · rw [List.getElem?_set_ne e] at ho
      have hbb : b' ≠ b := fun e' => by
        subst e'
        obtain ⟨l1, e1⟩ := List.getElem?_eq_some_iff.1 hb
        obtain ⟨l2, e2⟩ := List.getElem?_eq_some_iff.1 hb'
        exact e ((List.getElem_inj h.nd).1 (e1.trans e2.symm))
      exact (k5 id o b' ho hb').move (fun i z u hz => mv hz) (fun _ _ hz => hz.mono (fun _ _ h => h) (fun _ _ h => h) hcell) (fun _ => hne b' hbb) (by simp)
  · rcases lv b' hL with h' | h'
    · exact (h.pr b' o hp).1 h'
    · exact hπ o (h' ▸ hp)

theorem foldl_put {ps : List Nat} {vs : List Value} : ∀ (t : Array Value), ((ps.zip vs).foldl (fun t (p : Nat × Value) => t.setIfInBounds p.1 p.2) t).size = t.size := by
  induction ps generalizing vs with
  | nil => intro t; simp
  | cons p ps ih =>
    intro t
    cases vs with
    | nil => simp
    | cons v vs => simp only [List.zip_cons_cons, List.foldl_cons]; rw [ih]; simp

/-- A round's slots. -/
def updL (t : Nat → PV) : List Nat → List PV → Nat → PV
  | p :: ps, x :: xs => updL (upd t p x.strip) ps xs
  | _, _ => t

theorem tmpsRel {w : World} {H : List PObj} {m : Nat} : ∀ {ps : List Nat} {xs : List PV} {vs : List Value} {t : Nat → PV} {tm : Array Value}, (∀ p ∈ ps, p < m) → tm.size = m → vs.length = xs.length →
    (∀ (i : Nat) (z : PV) (u : Value), xs[i]? = some z → vs[i]? = some u → VRel w bl π z u) → (∀ i, LRel w bl π H none (t i) (tm.getD i undef)) →
    ∀ i, LRel w bl π H none (updL t ps xs i) (((ps.zip vs).foldl (fun t (p : Nat × Value) => t.setIfInBounds p.1 p.2) tm).getD i undef)
  | [], xs, vs, t, tm, _, _, _, _, h => by simpa [updL] using h
  | p :: ps, [], [], t, tm, _, _, _, _, h => by simpa [updL] using h
  | p :: ps, x :: xs, v :: vs, t, tm, hp, hs, hl, hr, h => by
    simp only [updL, List.zip_cons_cons, List.foldl_cons]
    refine tmpsRel (fun q hq => hp q (by simp [hq])) (by simpa using hs) (by simpa using hl) (fun i z u hz hu => hr (i + 1) z u (by simpa using hz) (by simpa using hu)) (fun i => ?_)
    have hx := hr 0 x v rfl rfl
    have hpm := hp p (by simp)
    by_cases e : i = p
    · subst e
      rw [upd_same, Array.getD_eq_getD_getElem?, Array.getElem?_setIfInBounds_self_of_lt (by omega)]
      exact .plain hx.strip (PV.strip_ne _)
    · rw [upd_other _ _ e, Array.getD_eq_getD_getElem?, Array.getElem?_setIfInBounds_ne (Ne.symm e), ← Array.getD_eq_getD_getElem?]
      exact h i

def Ex.code : Ex → Option Code
  | .normal => none
  | .ret => some .ret
  | .exit id => some (.exit id)

theorem upd_strip_all (h : Rel E s bl π om a w) (t : Nat) : LRel w bl π s.H none ((s.t t).strip) (a.tmps.getD t undef) := .plain (h.tm t).1.strip (PV.strip_ne _)

theorem LRel.later {w w' : World} {bl' : List Nat} {π' : Nat → Nat → Prop} {H H' : List PObj} {p : PV} {v : Value} (h : LRel w bl π H none p v) (hn : NoOwn p) (hb : ∀ i b : Nat, bl[i]? = some b → bl'[i]? = some b) (hπ : ∀ b o, π b o → π' b o)
    (hc : ∀ b o, π b o → w'.kell ⟨b, o, none⟩ = w.kell ⟨b, o, none⟩) : LRel w' bl' π' H' none p v := .plain (h.1.mono hb hπ hc) hn

/-- Code that goes on behind itself. -/
def PCode.flat : PCode → Bool
  | .skip | .reg .. => true
  | .seq a b => a.flat && b.flat
  | _ => false

theorem pwp_flat {C : Cx} : ∀ (pc : PCode) {Q : Ex → St → Prop} {s : St}, pc.flat = true → pwp C pures n pc Q s → pwp C pures n pc (fun ex s' => ex = .normal ∧ Q .normal s') s
  | .skip, _, _, _, h => ⟨rfl, h⟩
  | .reg _ ops, _, _, _, h => pwpOps_mono (fun s' h' => ⟨rfl, h'⟩) h
  | .seq a b, Q, s, hf, h => by
    simp only [PCode.flat, Bool.and_eq_true] at hf
    refine pwp_mono a ?_ (pwp_flat a hf.1 h)
    rintro ex s' ⟨rfl, h'⟩
    exact pwp_flat b hf.2 h'

/-- Slots and objects, from which a frame starts. -/
theorem Rel.ofH {w : World} {O : Nat → Prop} {H : List PObj} {t : Nat → PV} {tm : Array Value} {ro : Option Nat} {Y : Nat → List PV → List PObj → (PV → List PObj → Prop) → Prop} (hH : HRel w bl π O H) (hs : tm.size = n) (ht : ∀ i, LRel w bl π H none (t i) (tm.getD i undef)) :
    ∃ om, Rel { w := w, bl := bl, π := π, O := O, H := H, n := n, round := ro, Y := Y } ⟨t, H⟩ bl π om { tmps := tm, defers := [] } w := by
  obtain ⟨om, k1, k2, k3, k4, k5⟩ := hH.ob
  refine ⟨fun ℓ => match ℓ with | .t _ => none | .c i o => om i o, ?_⟩
  exact {
    dfr := .nil
    sz := hs
    tm := ht
    len := hH.len
    nd := hH.nd
    lt := hH.lt
    ob := k5
    pr := hH.pr
    inj := fun ℓ ℓ' b h1 h2 => by
      cases ℓ <;> cases ℓ' <;> simp at h1 h2
      obtain ⟨rfl, rfl⟩ := k1 _ _ _ _ b h1 h2
      rfl
    omw := fun ℓ b h => by
      cases ℓ with
      | t n => cases h
      | c i o =>
        obtain ⟨g1, g2, g3⟩ := k2 _ _ _ h
        exact ⟨g2, .inr g1, g3⟩
    omc := fun i o hi => k3 i o hi
    fr := Frame'.refl
    el := hH.len }

/-- A frame goes on, its begin forgotten, a block turned that it doesn't know. -/
theorem Rel.rebase (h : Rel E s bl π om a w) (hd : a.defers = []) {l : Nat} {o o' : Obj} (hl : w.heap[l]? = some o) (hno : ∀ cs t f, o ≠ .cells cs t f) (hno' : ∀ cs t f, o' ≠ .cells cs t f) (hL : ¬ Live bl s.H l) (hlb : ∀ id : Nat, bl[id]? = some l → s.H[id]? = some .dead) :
    Rel { w := w.putObj l o', bl := bl, π := π, O := fun b => ∃ ℓ, om ℓ = some b, H := s.H, n := E.n, round := E.round, Y := E.Y } s bl π om a (w.putObj l o') := by
  have hlt := (Array.getElem?_eq_some_iff.1 hl).1
  have hne : ∀ b', b' ≠ l → (w.putObj l o').heap[b']? = w.heap[b']? := fun b' e => World.putObj_heap_other e
  have hcell : ∀ b' o, (w.putObj l o').kell ⟨b', o, none⟩ = w.kell ⟨b', o, none⟩ := fun b' q => by
    by_cases e : b' = l
    · subst e
      simp only [World.kell, World.cell?, World.frozen?, hl, World.putObj_heap_same hlt]
      cases o <;> cases o' <;> first | rfl | exact absurd rfl (hno _ _ _) | exact absurd rfl (hno' _ _ _)
    · exact cell_of_block (hne b' e)
  have own : ∀ ℓ b, om ℓ = some b → b ≠ l := fun ℓ b hb e => by
    obtain ⟨⟨cs, t, hc⟩, _⟩ := h.omw ℓ b hb
    rw [e, hl] at hc
    cases hc
    exact hno _ _ _ rfl
  have mv : ∀ {ℓ p v}, LRel w bl π s.H (om ℓ) p v → LRel (w.putObj l o') bl π s.H (om ℓ) p v :=
    fun {ℓ _ _} hl => hl.move (fun _ _ h => h) (fun _ _ h => h) (fun b q _ => hcell b q) (fun b' hob hL' _ => ⟨hne b' (own ℓ b' hob), hL', fun _ h => h⟩)
  exact {
    dfr := by rw [hd]; exact .nil
    sz := h.sz
    tm := fun t => mv (h.tm t)
    len := h.len
    nd := h.nd
    lt := fun b hm => by simp; exact h.lt b hm
    ob := fun id q b ho hb => (h.ob id q b ho hb).move (fun _ _ _ hl => mv hl) (fun _ _ hl => hl.mono (fun _ _ h => h) (fun _ _ h => h) (fun b o _ => hcell b o))
      (fun hnd => hne b (fun e => by subst e; rw [hlb id hb] at ho; exact hnd (Option.some.inj ho).symm)) (by simp)
    pr := fun b o hp => ⟨(h.pr b o hp).1, by simp; exact (h.pr b o hp).2⟩
    inj := h.inj
    omw := fun ℓ b hb => by
      obtain ⟨⟨cs, t, hc⟩, _, k⟩ := h.omw ℓ b hb
      exact ⟨⟨cs, t, (hne b (own ℓ b hb)).trans hc⟩, .inr ⟨ℓ, hb⟩, k⟩
    omc := h.omc
    fr := Frame'.refl
    el := h.len }

theorem Rel.addMark (h : Rel E s bl π om a w) (hro : E.round = none) : Rel E s bl π om { a with defers := mark w.heap.size :: a.defers } (w.alloc (.deferred (some []))) := by
  have h1 := h.grow (alloc_below w (.deferred (some [])))
  obtain ⟨_, Ds, e1, e2, e3⟩ := h1.dfr
  refine { h1 with dfr := ⟨(fun hr => by rw [hro] at hr; cases hr), w.heap.size :: Ds, by simp [e1], List.nodup_cons.2 ⟨fun hm => ?_, e2⟩, fun D hD => ?_⟩ }
  · obtain ⟨_, _, g3⟩ := e3 _ hm
    obtain ⟨_, Ds', f1, f2, f3⟩ := h.dfr
    have : Ds' = Ds := by
      have := f1.symm.trans e1
      exact (List.map_inj_right (fun a b h => by simp [mark] at h; exact h)).1 this
    subst this
    have := (Array.getElem?_eq_some_iff.1 (f3 _ hm).2.2).1
    omega
  · rcases List.mem_cons.1 hD with rfl | hD
    · exact ⟨h.fr.size, fun hm => by have := h.lt _ hm; omega, World.alloc_heap_new w _⟩
    · exact e3 D hD

theorem Rel.stripAll (h : Rel E s bl π om a w) : Rel E ⟨fun t => (s.t t).strip, s.H⟩ bl π (fun ℓ => match ℓ with | .t _ => none | ℓ => om ℓ) a w where
  dfr := h.dfr
  sz := h.sz
  tm := fun t => .plain (h.tm t).1.strip (PV.strip_ne _)
  len := h.len
  nd := h.nd
  lt := h.lt
  ob := h.ob
  pr := h.pr
  inj := fun ℓ ℓ' b h1 h2 => by
    cases ℓ <;> cases ℓ' <;> simp at h1 h2
    exact h.inj _ _ b h1 h2
  omw := fun ℓ b hb => by
    cases ℓ <;> simp at hb
    exact h.omw _ _ hb
  omc := fun id off hid => h.omc id off hid
  fr := h.fr
  el := h.el

/-- What a round's end hands to the iterator. -/
theorem round_after {w2 w3 w4 w5 w6 : World} {O2 : Nat → Prop} {bl2 bl3 bl5 : List Nat} {π2 π3 π5 : Nat → Nat → Prop} {H' H3 H5 : List PObj} {om3 om5 : Loc → Option Nat} {lid l : Nat} {r0 r1 r2 : Loop} {t5 : Nat → PV} {a3 a5 : Act} {t3 : Nat → PV} {m : Nat} {ro : Option Nat} {Y : Nat → List PV → List PObj → (PV → List PObj → Prop) → Prop}
    {R : PV → List PObj → Prop} {p : PV} {v : Value}
    (hH : HRel w2 bl2 π2 O2 H') (hb : bl2[lid]? = some l) (hHl : H'[lid]? = some (.raw (.loop r0)))
    (hr3 : Rel { w := w2, bl := bl2, π := π2, O := O2, H := H'.set lid .dead, n := m, round := ro, Y := Y } ⟨t3, H3⟩ bl3 π3 om3 a3 w3) (hw4 : w4 = w3.putObj l (.loop r1))
    (hr5 : Rel { w := w4, bl := bl3, π := π3, O := fun b => ∃ ℓ, om3 ℓ = some b, H := H3, n := m, round := ro, Y := Y } ⟨t5, H5⟩ bl5 π5 om5 a5 w5) (hw6 : w6 = w5.putObj l (.loop r2)) (hv : VRel w6 bl5 π5 p v)
    (hR : R p (H5.set lid (.raw (.loop r2)))) : After w2 bl2 π2 O2 H' R v w6 := by
  obtain ⟨om2, k1, k2, k3, k4, k5⟩ := hH.ob
  have hll : w2.heap[l]? = some (.loop r0) := k5 lid _ l hHl hb
  have hLl : Live bl2 H' l := ⟨lid, _, hb, hHl, by simp⟩
  have hO2 : ¬ O2 l := fun h => by
    obtain ⟨i, o, hio⟩ := k4 l h
    obtain ⟨_, ⟨cs, t, hc⟩, _⟩ := k2 i o l hio
    rw [hll] at hc; cases hc
  have hltH : lid < H'.length := (List.getElem?_eq_some_iff.1 hHl).1
  have hd3 : H3[lid]? = some .dead := hr3.fr.dead lid (List.getElem?_set_self hltH)
  have hd5 : H5[lid]? = some .dead := hr5.fr.dead lid hd3
  have hb3 : bl3[lid]? = some l := hr3.fr.pre lid l hb
  have hb5 : bl5[lid]? = some l := hr5.fr.pre lid l hb3
  have only : ∀ {bl' : List Nat} {H'' : List PObj} (nd : bl'.Nodup), bl'[lid]? = some l → H''[lid]? = some .dead → ¬ Live bl' H'' l := fun {bl' H''} nd hb hd ⟨id, o, h1, h2, h3⟩ => by
    obtain ⟨l1, e1⟩ := List.getElem?_eq_some_iff.1 hb
    obtain ⟨l2, e2⟩ := List.getElem?_eq_some_iff.1 h1
    have := (List.getElem_inj nd).1 (e1.trans e2.symm)
    subst this
    rw [hd] at h2
    exact h3 (Option.some.inj h2).symm
  have hlt2 := (Array.getElem?_eq_some_iff.1 hll).1
  have hl2 : ¬ Live bl2 (H'.set lid .dead) l := only hH.nd hb (List.getElem?_set_self hltH)
  have hl3 : w3.heap[l]? = some (.loop r0) := (hr3.fr.block l hlt2 hl2 hO2).trans hll
  have hlt3 := (Array.getElem?_eq_some_iff.1 hl3).1
  have hl4 : w4.heap[l]? = some (.loop r1) := by rw [hw4]; exact World.putObj_heap_same hlt3
  have hO3 : ¬ ∃ ℓ, om3 ℓ = some l := fun ⟨ℓ, hℓ⟩ => by
    obtain ⟨⟨cs, t, hc⟩, _⟩ := hr3.omw ℓ l hℓ
    rw [hl3] at hc; cases hc
  have hlt4 := (Array.getElem?_eq_some_iff.1 hl4).1
  have hl5 : w5.heap[l]? = some (.loop r1) := (hr5.fr.block l hlt4 (only hr3.nd hb3 hd3) hO3).trans hl4
  have ne4 : ∀ b, b ≠ l → w4.heap[b]? = w3.heap[b]? := fun b hb => by rw [hw4]; exact World.putObj_heap_other hb
  have ne6 : ∀ b, b ≠ l → w6.heap[b]? = w5.heap[b]? := fun b hb => by rw [hw6]; exact World.putObj_heap_other hb
  have sz4 : w4.heap.size = w3.heap.size := by rw [hw4]; simp
  have sz6 : w6.heap.size = w5.heap.size := by rw [hw6]; simp
  have ownO : ∀ b, (∃ ℓ, om3 ℓ = some b) → O2 b ∨ w2.heap.size ≤ b := fun b ⟨ℓ, hℓ⟩ => by
    rcases (hr3.omw ℓ b hℓ).2.1 with g | g
    · exact .inr g
    · exact .inl g
  have freshπ : ∀ b o, π5 b o → π2 b o ∨ w2.heap.size ≤ b ∨ O2 b := fun b o hp => by
    have s3 := hr3.fr.size
    rcases hr5.fr.fresh b o hp with g | g | g
    · exact hr3.fr.fresh b o g
    · exact .inr (.inl (by simp at g s3; omega))
    · rcases ownO b g with g | g
      · exact .inr (.inr g)
      · exact .inr (.inl g)
  have hπl : ∀ o, ¬ π5 l o := fun o hp => by
    rcases freshπ l o hp with g | g | g
    · exact (hH.pr l o g).1 hLl
    · omega
    · exact hO2 g
  refine ⟨p, _, bl5, π5, ownC om5, hR, hv, ?_, ?_, ?_⟩
  · rw [hw6]
    exact hr5.toH.loopSet hb5 hd5 hl5 hπl
  · rintro b ⟨id, off, hbo⟩
    have s3 := hr3.fr.size
    rcases (hr5.omw _ _ hbo).2.1 with g | g
    · exact .inr (by simp at g s3; omega)
    · exact ownO b g
  · refine ⟨?_, ?_, ?_, ?_, fun i b hi => hr5.fr.pre i b (hr3.fr.pre i b hi), ?_, fun b o hp => hr5.fr.sub b o (hr3.fr.sub b o hp), freshπ, ?_, ?_, ?_⟩
    · rw [hw6]; exact hr5.fr.os.trans (by rw [hw4]; exact hr3.fr.os)
    · rw [hw6]; exact hr5.fr.tape.trans (by rw [hw4]; exact hr3.fr.tape)
    · rw [hw6]; exact hr5.fr.output.trans (by rw [hw4]; exact hr3.fr.output)
    · have s3 := hr3.fr.size
      have s5 := hr5.fr.size
      simp at s3 s5
      omega
    · intro i b hi hle
      have s3 := hr3.fr.size
      by_cases hlt : i < bl3.length
      · have e1 : bl3[i]? = some bl3[i] := List.getElem?_eq_getElem hlt
        have e2 := hr5.fr.pre i _ e1
        rw [hi] at e2
        cases e2
        exact hr3.fr.new i _ e1 hle
      · have := hr5.fr.new i b hi (by simp; omega)
        simp at this s3
        omega
    · intro b hbl hL hO
      have hbl' : b ≠ l := fun e => hL (e ▸ hLl)
      have s3 := hr3.fr.size
      have lv3 : ¬ Live bl3 H3 b := fun hL3 => hL (live_dead (hr3.fr.live (by simp [hH.len]) hbl hL3))
      have o3 : ¬ ∃ ℓ, om3 ℓ = some b := fun h => by
        rcases ownO b h with h | h
        · exact hO h
        · omega
      refine (ne6 b hbl').trans ((hr5.fr.block b (by simp at s3 ⊢; omega) lv3 o3).trans ((ne4 b hbl').trans (hr3.fr.block b hbl (fun h => hL (live_dead h)) hO)))
    · intro id hid
      have hne : lid ≠ id := fun e => by subst e; rw [hHl] at hid; cases hid
      have g1 := hr3.fr.dead id (by simp only; rw [List.getElem?_set_ne hne]; exact hid)
      have g2 := hr5.fr.dead id g1
      rw [List.getElem?_set_ne hne]
      exact g2
    · intro b o hp
      have hbl' : b ≠ l := fun e => (hH.pr b o hp).1 (e ▸ hLl)
      exact (cell_of_block (ne6 b hbl')).trans ((hr5.fr.cell b o (hr3.fr.sub b o hp)).trans ((cell_of_block (ne4 b hbl')).trans (hr3.fr.cell b o hp)))

end
end Go.Pi
/- A range over a function: the law. -/
namespace Go.Pi
open Go.RowKit

section
variable {P : Program} {pures : List Nat} {n : Nat} {s : St}

/-- What is told of a loop's body. -/
def YR (P : Program) (pures : List Nat) (n : Nat) (asg body : PCode) (ps : List Nat) (t : Nat → PV) (lid : Nat) (rec : LoopState → Option Code → Loop) (id : Nat) (x : List PV) (H' : List PObj) (R : PV → List PObj → Prop) : Prop :=
  id = lid ∧ x.length = ps.length ∧ H'[lid]? = some (.raw (.loop (rec .ready none))) ∧
    pwp ⟨P, noY, False⟩ pures n (.seq asg body) (fun ex s' => (ex = .normal → R (.v (.bool true)) (s'.H.set lid (.raw (.loop (rec .ready none))))) ∧
      ∀ c, ex.code = some c → R (.v (.bool false)) (s'.H.set lid (.raw (.loop (rec .done (some c)))))) ⟨updL t ps x, H'.set lid .dead⟩

theorem wide_round {E : Ent} {l : Nat} (h : E.round = some l) : fence E = Fence.wide.inRound l := by simp [fence, Fence.inRound, h]

set_option maxHeartbeats 1000000 in
theorem yOk {w1 : World} {bl1 : List Nat} {π1 : Nat → Nat → Prop} {O1 : Nat → Prop} {H1 : List PObj} {lid l : Nat} {tm : Array Value} {t : Nat → PV} {ps : Array Tmp} {asg body : PCode} {a' b' : Code} {fn : FuncId} {D : Nat}
    (hm : P.follows .mixedOrders = true) (hflat : asg.flat = true) (ha : compCode P pures n a' = some asg) (hb : compCode P pures n b' = some body) (hps : ∀ p ∈ ps.toList, p < n) (htm : tm.size = n)
    (ht : ∀ i, LRel w1 bl1 π1 H1 none (t i) (tm.getD i undef)) (hno : ∀ i, NoOwn (t i)) (hbl : bl1[lid]? = some l) (hl : H1.length = bl1.length) :
    EOk P { w := w1, bl := bl1, π := π1, O := O1, H := H1, n := 0, round := none,
            Y := YR P pures n asg body ps.toList t lid fun st pe => { state := st, pending := pe, fn, tmps := tm, params := ps, assign := a', body := b', defers := D } } := by
  intro w2 bl2 π2 O2 H' id b2 x cargs R hF hO hH hb2 hargs hY
  obtain ⟨rfl, hxl, hHl, hp⟩ := hY
  have hbl2 := hF.pre _ _ hbl
  rw [hb2] at hbl2
  cases hbl2
  obtain ⟨om2, k1, k2, k3, k4, k5⟩ := hH.ob
  have hll := k5 id _ l hHl hb2
  simp only [ORel] at hll
  have hsz : cargs.size = ps.size := by rw [hargs.1, hxl]; simp
  refine ⟨_, _, _, _, run_yield hll hsz, ?_⟩
  refine roundIn_of_wpIn trivial ?_
  -- the frame of the round
  have htm2 : ∀ i, LRel w2 bl2 π2 (H'.set id .dead) none (updL t ps.toList x i) (((ps.toList.zip cargs.toList).foldl (fun t (p : Nat × Value) => t.setIfInBounds p.1 p.2) tm).getD i undef) :=
    tmpsRel hps htm (by simpa using hargs.1) (fun i z u hz hu => hargs.2 i z u hz (by simpa using hu)) (fun i => (ht i).later (hno i) hF.pre hF.sub hF.cell)
  have hfold : ((ps.zip cargs).foldl (fun tmps (t, a) => tmps.setIfInBounds t a) tm) = (ps.toList.zip cargs.toList).foldl (fun t (p : Nat × Value) => t.setIfInBounds p.1 p.2) tm := by
    rw [← Array.foldl_toList, Array.toList_zip]
  simp only
  rw [hfold]
  have hsz2 : ((ps.toList.zip cargs.toList).foldl (fun t (p : Nat × Value) => t.setIfInBounds p.1 p.2) tm).size = n := by rw [foldl_put, htm]
  obtain ⟨om, hr⟩ := Rel.ofH (ro := some l) (Y := noY) (hH.kill id) hsz2 htm2
  have hasg := pwp_flat (C := ⟨P, noY, False⟩) asg hflat hp
  have hE := pwp_sound (C := ⟨P, noY, False⟩) hm asg hasg a' ha _ bl2 π2 om _ w2 rfl ⟨rfl, fun h => h.elim⟩ (EOk.noY rfl) hr
  rw [wide_round rfl] at hE
  refine wpIn_mono hE ?_
  rintro e a3 w3 ⟨ex, s3, bl3, π3, om3, rfl, ⟨rfl, hbody⟩, hr3⟩
  -- the body begins
  have hltH : id < H'.length := (List.getElem?_eq_some_iff.1 hHl).1
  have hd3 : s3.H[id]? = some .dead := hr3.fr.dead id (List.getElem?_set_self hltH)
  have hb3 : bl3[id]? = some l := hr3.fr.pre id l hb2
  have hO2 : ¬ O2 l := fun h => by
    obtain ⟨i, o, hio⟩ := k4 l h
    obtain ⟨_, ⟨cs, t, hc⟩, _⟩ := k2 i o l hio
    rw [hll] at hc; cases hc
  have onlyId : ∀ {bl' : List Nat} (nd : bl'.Nodup), bl'[id]? = some l → ∀ j : Nat, bl'[j]? = some l → j = id := fun {bl'} nd hb j hj => by
    obtain ⟨l1, e1⟩ := List.getElem?_eq_some_iff.1 hb
    obtain ⟨l2, e2⟩ := List.getElem?_eq_some_iff.1 hj
    exact (List.getElem_inj nd).1 (e2.trans e1.symm)
  have hl2 : ¬ Live bl2 (H'.set id .dead) l := fun ⟨j, o, h1, h2, h3⟩ => by
    have := onlyId hH.nd hb2 j h1
    subst this
    rw [List.getElem?_set_self hltH] at h2
    exact h3 (Option.some.inj h2).symm
  have hlt2 := (Array.getElem?_eq_some_iff.1 hll).1
  have hl3 := (hr3.fr.block l hlt2 hl2 hO2).trans hll
  have hL3 : ¬ Live bl3 s3.H l := fun ⟨j, o, h1, h2, h3⟩ => by
    have := onlyId hr3.nd hb3 j h1
    subst this
    rw [hd3] at h2
    exact h3 (Option.some.inj h2).symm
  have hdef : a3.defers = [] := hr3.dfr.1 rfl
  refine ⟨_, run_beginRound hl3 rfl, ?_⟩
  have hr4 := hr3.rebase hdef hl3 (o' := .loop { state := .busy, pending := none, fn, tmps := tm, params := ps, assign := a', body := b', defers := D }) (fun _ _ _ e => by cases e) (fun _ _ _ e => by cases e) hL3 (fun j hj => by rw [onlyId hr3.nd hb3 j hj]; exact hd3)
  have hE2 := pwp_sound (C := ⟨P, noY, False⟩) hm body hbody b' hb _ bl3 π3 om3 a3 _ rfl ⟨rfl, fun h => h.elim⟩ (EOk.noY rfl) hr4
  rw [wide_round rfl] at hE2
  refine wpIn_mono hE2 ?_
  rintro e a5 w5 ⟨ex, s5, bl5, π5, om5, rfl, ⟨hq1, hq2⟩, hr5⟩
  have hO3 : ¬ ∃ ℓ, om3 ℓ = some l := fun ⟨ℓ, hℓ⟩ => by
    obtain ⟨⟨cs, t, hc⟩, _⟩ := hr3.omw ℓ l hℓ
    rw [hl3] at hc; cases hc
  have hlt3 := (Array.getElem?_eq_some_iff.1 hl3).1
  have hl5 := (hr5.fr.block l (by simpa using hlt3) hL3 hO3).trans (World.putObj_heap_same hlt3)
  cases ex with
  | normal =>
    refine ⟨_, _, run_endRound none hl5, _, rfl, ?_⟩
    exact round_after hH hb2 hHl hr3 rfl hr5 rfl (.v rfl) (hq1 rfl)
  | ret =>
    refine ⟨_, _, run_endRound (some .ret) hl5, _, rfl, ?_⟩
    exact round_after hH hb2 hHl hr3 rfl hr5 rfl (.v rfl) (hq2 _ rfl)
  | exit i =>
    refine ⟨_, _, run_endRound (some (.exit i)) hl5, _, rfl, ?_⟩
    exact round_after hH hb2 hHl hr3 rfl hr5 rfl (.v rfl) (hq2 _ rfl)

set_option maxHeartbeats 1000000 in
/-- **A loop over an iterator.** -/
theorem pwp_rangef (hm : P.follows .mixedOrders = true) {f : Arg} {ps : List Nat} {asg body : PCode} {Q : Ex → St → Prop} {g : Nat} {cap : List PV} {rd : List Nat} {S Sp : List (List PV) → Prop}
    (hflat : asg.flat = true) (hf : s.arg f = .clo g cap) (hrd : ∀ id ∈ rd, id < s.H.length) (hit : ∀ r : Loop, Iter P g cap (s.H ++ [.raw (.loop r)]) rd S Sp) (hlen : ∀ pre x, Sp (pre ++ [x]) → x.length = ps.length)
    (I : List (List PV) → List PObj → Prop) (X : Ex → List PObj → Prop)
    (hI : ∀ pre H' H'', I pre H' → (∀ id, id < s.H.length → H''[id]? = H'[id]?) → I pre H'') (hX : ∀ ex H' H'', X ex H' → (∀ id, id < s.H.length → H''[id]? = H'[id]?) → X ex H'')
    (h0 : I [] s.H)
    (hround : ∀ pre x H', Sp (pre ++ [x]) → I pre H' → s.H.length < H'.length → (∀ id ∈ rd, H'[id]? = s.H[id]?) →
      pwp ⟨P, noY, False⟩ pures n (.seq asg body) (fun ex s' => Keep rd (s.H.length + 1) H' s'.H ∧ match ex with | .normal => I (pre ++ [x]) s'.H | ex => X ex s'.H) ⟨updL (fun t => (s.t t).strip) ps x, H'⟩)
    (hsome : ∀ pre x H', Sp (pre ++ [x]) → I pre H' → s.H.length < H'.length → (∀ id ∈ rd, H'[id]? = s.H[id]?) → ∃ H'', Keep rd (s.H.length + 1) H' H'' ∧ I (pre ++ [x]) H'')
    (hdone : ∀ xs H', S xs → I xs H' → s.H.length < H'.length → Q .normal ⟨fun t => (s.t t).strip, H'⟩)
    (hleft : ∀ ex H', X ex H' → s.H.length < H'.length → ex ≠ .normal → Q ex ⟨fun t => (s.t t).strip, H'⟩) :
    pwp ⟨P, noY, True⟩ pures n (.rangef f ps asg body) Q s := by
  intro c hc E bl π om a w hn hY hok hr
  cases c <;> simp only [compCode, Option.bind_eq_bind, Option.bind_eq_some_iff, Option.map_eq_some_iff] at hc <;> try (simp at hc; done)
  rename_i g' ps' a' b'
  obtain ⟨f', hf', asg', ha, body', hb, hc⟩ := hc
  split at hc
  · rename_i hps
    cases hc
    have hro := hY.2 trivial
    refine wpIn_rangeFunc ?_
    intro fn _
    have hfr : (fence E).round = none := hro
    rw [hfr]
    obtain ⟨rec, hrec⟩ : ∃ rec : LoopState → Option Code → Loop, rec = fun st pe => { state := st, pending := pe, fn, tmps := a.tmps, params := ps', assign := a', body := b', defers := w.heap.size } := ⟨_, rfl⟩
    -- the mark, and the record as an object
    have hr1 := hr.addMark hro
    have hr2 := hr1.newObj (.loop (rec .ready none)) (.raw (.loop (rec .ready none))) (fun w' hw' _ _ => hw')
    obtain ⟨W1, hW1⟩ : ∃ W1, (w.alloc (.deferred (some []))).alloc (.loop (rec .ready none)) = W1 := ⟨_, rfl⟩
    rw [hW1] at hr2
    have hsz1 : (w.alloc (.deferred (some []))).heap.size = w.heap.size + 1 := World.size_alloc _ _
    rw [hsz1] at hr2
    have hL1 : W1.heap[w.heap.size + 1]? = some (.loop (rec .ready none)) := by
      rw [← hW1, ← hsz1]; exact World.alloc_heap_new _ _
    -- the iterator
    have hclo := hr.arg hf'
    rw [hf] at hclo
    generalize hev : a.eval g' = gv at hclo
    cases hclo with
    | clo hcs hcr =>
      rename_i vs
      have hbl1 : (bl ++ [w.heap.size + 1])[s.H.length]? = some (w.heap.size + 1) := by rw [← hr.len]; simp
      have hcell1 : ∀ b o, π b o → W1.kell ⟨b, o, none⟩ = w.kell ⟨b, o, none⟩ := fun b o hp => by
        rw [← hW1]
        refine cell_of_block ?_
        have h1 := (alloc_below w (.deferred (some []))).block b (hr.pr b o hp).2
        have h2 := (alloc_below (w.alloc (.deferred (some []))) (.loop (rec .ready none))).block b (by have := (hr.pr b o hp).2; omega)
        exact h2.trans h1
      have hargs : ArgsRel W1 (bl ++ [w.heap.size + 1]) π (.yld s.H.length :: cap) (#[.func (.yield (w.heap.size + 1)) #[] #[]] ++ vs) := by
        refine ⟨by simp; omega, fun i z u hz hu => ?_⟩
        cases i with
        | zero =>
          have hu' : u = .func (.yield (w.heap.size + 1)) #[] #[] := by
            rw [Array.getElem?_append_left (by simp)] at hu
            simpa using hu.symm
          simp at hz
          subst hz
          subst hu'
          exact .yld hbl1
        | succ i =>
          simp at hz
          have hu' : vs[i]? = some u := by
            rw [Array.getElem?_append_right (by simp)] at hu
            simpa using hu
          exact (hcr i z u hz hu').mono (fun j b hj => by rw [List.getElem?_append_left (List.getElem?_eq_some_iff.1 hj).1]; exact hj) (fun _ _ h => h) hcell1
      have htm : ∀ i, LRel W1 (bl ++ [w.heap.size + 1]) π (s.H ++ [.raw (.loop (rec .ready none))]) none ((fun t => (s.t t).strip) i) (a.tmps.getD i undef) := fun i =>
        .plain ((hr.tm i).1.strip.mono (fun j b hj => by rw [List.getElem?_append_left (List.getElem?_eq_some_iff.1 hj).1]; exact hj) (fun _ _ h => h) hcell1) (PV.strip_ne _)
      have hlen1 : (s.H ++ [PObj.raw (.loop (rec .ready none))]).length = (bl ++ [w.heap.size + 1]).length := by simp [hr.len]
      have hok1 := yOk (P := P) (pures := pures) (n := n) (w1 := W1) (bl1 := bl ++ [w.heap.size + 1]) (π1 := π) (O1 := ownC om) (H1 := s.H ++ [.raw (.loop (rec .ready none))]) (lid := s.H.length) (l := w.heap.size + 1) (tm := a.tmps) (t := fun t => (s.t t).strip) (ps := ps') (asg := asg) (body := body) (a' := a') (b' := b') (fn := fn) (D := w.heap.size)
        hm hflat ha hb (fun p hp => by have := List.all_eq_true.1 hps p hp; simpa using this) (by rw [hr.sz, hn]) htm (fun i => PV.strip_ne _) hbl1 hlen1
      have hsame : ∀ {H' : List PObj} {id : Nat} {o : PObj}, id < s.H.length → (H'.set s.H.length o)[id]? = H'[id]? := fun {H' id o} h => List.getElem?_set_ne (by omega)
      have hcall := hit (rec .ready none) (YR P pures n asg body ps'.toList (fun t => (s.t t).strip) s.H.length rec) s.H.length
        (fun pre H' => I pre H' ∧ H'[s.H.length]? = some (.raw (.loop (rec .ready none))))
        (fun H' => ∃ ex c, Ex.code ex = some c ∧ X ex H' ∧ H'[s.H.length]? = some (.raw (.loop (rec .done (some c))))) (by simp)
        (fun pre H' H'' hi hs => ⟨hI pre H' H'' hi.1 (fun id hid => hs id (by simp; omega)), (hs _ (by simp)).trans hi.2⟩)
        (fun H' H'' ⟨ex, c, h1, h2, h3⟩ hs => ⟨ex, c, h1, hX ex H' H'' h2 (fun id hid => hs id (by simp; omega)), (hs _ (by simp)).trans h3⟩)
        ⟨hI [] s.H _ h0 (fun id hid => by rw [List.getElem?_append_left hid]), by simp⟩
        (by
          rintro pre x H' hsp ⟨hi, hl⟩ hle hrd'
          have hltH : s.H.length < H'.length := (List.getElem?_eq_some_iff.1 hl).1
          have hkeep : ∀ (s' : List PObj), Keep rd (s.H.length + 1) (H'.set s.H.length .dead) s' → ∀ o : PObj, Keep rd (s.H ++ [PObj.raw (.loop (rec .ready none))]).length H' (s'.set s.H.length o) := fun s' hk o => by
            refine ⟨by have := hk.len; simp at this ⊢; omega, fun id h1 h2 => ?_, fun id hid => ?_⟩
            · simp at h1
              rw [List.getElem?_set_ne (by omega), hk.rest id (by omega) (by simpa using h2), List.getElem?_set_ne (by omega)]
            · rw [hsame (hrd id hid), hk.rd id hid, hsame (hrd id hid)]
          constructor
          · obtain ⟨H'', k1, k2⟩ := hsome pre x (H'.set s.H.length .dead) hsp (hI pre H' _ hi (fun id hid => hsame hid)) (by simpa using hltH) (fun id hid => by
              rw [hsame (hrd id hid), hrd' id hid, List.getElem?_append_left (hrd id hid)])
            have hls : s.H.length < H''.length := by have := k1.len; simp at this; omega
            exact ⟨_, _, hkeep _ k1 (.raw (.loop (rec .ready none))), .inl ⟨rfl, hI _ H'' _ k2 (fun id hid => hsame hid), by rw [List.getElem?_set_self hls]⟩⟩
          refine ⟨rfl, hlen pre x hsp, hl, ?_⟩
          have hrdH : ∀ id ∈ rd, (H'.set s.H.length PObj.dead)[id]? = s.H[id]? := fun id hid => by
            rw [hsame (hrd id hid), hrd' id hid, List.getElem?_append_left (hrd id hid)]
          refine pwp_mono _ ?_ (hround pre x (H'.set s.H.length .dead) hsp (hI pre H' _ hi (fun id hid => hsame hid)) (by simpa using hltH) hrdH)
          rintro ex s' ⟨hk, hex⟩
          have hk' : ∀ o : PObj, Keep rd (s.H ++ [PObj.raw (.loop (rec .ready none))]).length H' (s'.H.set s.H.length o) := fun o => by
            refine ⟨by have := hk.len; simp at this ⊢; omega, fun id h1 h2 => ?_, fun id hid => ?_⟩
            · simp at h1
              rw [List.getElem?_set_ne (by omega), hk.rest id (by omega) (by simpa using h2), List.getElem?_set_ne (by omega)]
            · rw [hsame (hrd id hid), hk.rd id hid, hsame (hrd id hid)]
          have hls : s.H.length < s'.H.length := by have := hk.len; simp at this; omega
          refine ⟨fun e => ?_, fun c hc => ?_⟩
          · subst e
            exact ⟨hk' _, .inl ⟨rfl, hI _ s'.H _ hex (fun id hid => hsame hid), by rw [List.getElem?_set_self hls]⟩⟩
          · refine ⟨hk' _, .inr ⟨rfl, ex, c, hc, ?_, by rw [List.getElem?_set_self hls]⟩⟩
            cases ex with
            | normal => cases hc
            | ret => exact hX _ s'.H _ hex (fun id hid => hsame hid)
            | exit i => exact hX _ s'.H _ hex (fun id hid => hsame hid))
        W1 (bl ++ [w.heap.size + 1]) π (ownC om) _ hr2.toH hargs (by rw [hrec] at *; exact hok1)
      obtain ⟨hent, hcalls⟩ := hcall
      refine ⟨w.heap.size + 1, [mark w.heap.size], W1, { target := .fn (.func g) vs, args := #[.func (.yield (w.heap.size + 1)) #[] #[]] }, W1, g,
        #[.func (.yield (w.heap.size + 1)) #[] #[]] ++ vs, W1, ?_, ?_, fun _ _ => trivial, ?_, fun h => by simp [fence, Fence.wide] at h, ?_⟩
      · rw [← hW1, hrec]; exact run_enterLoop_outer _ _ _ _ _
      · simp only [resolve, hev]
        simp [go_sem]
      · simpa [invoke, go_sem] using hent
      · have h3 : CallsIn (fence E) (0 - 1) P g (#[.func (.yield (w.heap.size + 1)) #[] #[]] ++ vs) W1 fun e w' => ∃ v, e = .returned v ∧ After W1 (bl ++ [w.heap.size + 1]) π (ownC om) (s.H ++ [.raw (.loop (rec .ready none))]) _ v w' := (callsIn_wide (n := 0 - 1)).2 hcalls
        refine h3.mono ?_
        rintro e w2 ⟨v, rfl, r, H2, bl2, π2, O2, ⟨hle, _, hres⟩, hv, hH2, hO2, hF2⟩
        obtain ⟨om', hr3⟩ := hr2.called (d := none) (fun t e => by cases e) hv hH2 hO2 hF2
        have hbl2 := hF2.pre _ _ hbl1
        -- the end of the loop
        have fin : ∀ (st : LoopState) (pe : Option Code), st ≠ .busy → H2[s.H.length]? = some (.raw (.loop (rec st pe))) →
            (Instr.endLoop (w.heap.size + 1)).run P w2 = .ok pe (w2.putObj (w.heap.size + 1) (.loop { rec st pe with state := .exhausted })) ∧
            ∃ om2, Rel E ⟨fun t => (s.t t).strip, H2.set s.H.length (.raw (.loop { rec st pe with state := .exhausted }))⟩ bl2 π2 om2 { a with defers := mark w.heap.size :: a.defers } (w2.putObj (w.heap.size + 1) (.loop { rec st pe with state := .exhausted })) := by
          intro st pe hst hl2
          have hob := hr3.ob _ _ _ hl2 hbl2
          simp only [ORel] at hob
          refine ⟨by have := run_endLoop (P := P) hob (by rw [hrec]; exact hst); rw [this]; rw [hrec], ?_⟩
          have hlt := (Array.getElem?_eq_some_iff.1 hob).1
          have hr4 := hr3.setObj (om' := om') (w' := w2.putObj (w.heap.size + 1) (.loop { rec st pe with state := .exhausted })) (o' := .raw (.loop { rec st pe with state := .exhausted })) hl2 hbl2 (by simp) (by simp) (by simp) rfl rfl rfl (fun b' hne => World.putObj_heap_other hne) (fun _ _ => rfl) hr3.inj
            (fun ℓ q hq => by
              obtain ⟨⟨cs, t, h1⟩, h2⟩ := hr3.omw ℓ q hq
              have hne : q ≠ w.heap.size + 1 := fun e => by rw [e, hob] at h1; cases h1
              exact ⟨⟨cs, t, by rw [World.putObj_heap_other hne]; exact h1⟩, h2⟩)
            (fun _ _ _ => World.putObj_heap_same hlt)
          exact ⟨_, hr4.stripAll⟩
        have hlen2 : s.H.length < H2.length := by simp at hle; omega
        rcases hres with ⟨xs, hS, hi, hl⟩ | ⟨ex, c, hex, hx, hl⟩
        · obtain ⟨f1, om2, f2⟩ := fin _ _ (by simp) hl
          exact ⟨none, _, f1, .normal, _, _, _, _, rfl, hdone xs _ hS (hI xs H2 _ hi (fun id hid => hsame hid)) (by simpa using hlen2), f2⟩
        · obtain ⟨f1, om2, f2⟩ := fin _ _ (by simp) hl
          have hq := hleft ex (H2.set s.H.length (.raw (.loop { rec .done (some c) with state := .exhausted }))) (hX ex H2 _ hx (fun id hid => hsame hid)) (by simpa using hlen2) (fun e => by rw [e] at hex; cases hex)
          refine ⟨some c, _, f1, ?_⟩
          cases ex with
          | normal => cases hex
          | ret => cases hex; exact wpIn_ret ⟨.ret, _, _, _, _, rfl, hq, f2⟩
          | exit i => cases hex; exact wpIn_exit ⟨.exit i, _, _, _, _, rfl, hq, f2⟩
  · cases hc

end
end Go.Pi
/- Rules by which 'simp' goes through a function's compact form. -/
namespace Go.Pi

def bindS {α : Type} (o : Option α) (K : α → Prop) : Prop := ∃ x, o = some x ∧ K x
@[congr] theorem bindS_congr {α : Type} {o o' : Option α} {K : α → Prop} (h : o = o') : bindS o K = bindS o' K := by rw [h]
theorem bindS_some {α : Type} {x : α} {K : α → Prop} : bindS (some x) K = K x := by simp [bindS]

def seqK (P : Cx) (pures : List Nat) (n : Nat) (b : PCode) (Q : Ex → St → Prop) (ex : Ex) (s : St) : Prop :=
  match ex with | .normal => pwp P pures n b Q s | ex => Q ex s
def blockK (id : Nat) (Q : Ex → St → Prop) (ex : Ex) (s : St) : Prop :=
  match ex with | .exit i => if i = id then Q .normal s else Q (.exit i) s | ex => Q ex s
def condK (P : Cx) (pures : List Nat) (n : Nat) (a b : PCode) (Q : Ex → St → Prop) (s : St) (p : PV) : Prop := ∃ t, p = .v (.bool t) ∧ (t = true → pwp P pures n a Q s) ∧ (t = false → pwp P pures n b Q s)
def guardK (P : Cx) (o : POp) (os : List POp) (K : St → Prop) (s : St) (b : Bool) (p : PV) : Prop := ∃ g, gdOf p b = some g ∧ (g = true → pwpOps P (o :: os) K s) ∧ (g = false → pwpOps P os K (s.set o.dst skipped))
def valK (P : Cx) (os : List POp) (K : St → Prop) (d : Option Nat) (s : St) (o : Option PV) : Prop := ∃ p, o = some p ∧ pwpOps P os K (s.set d p)
def stK (P : Cx) (os : List POp) (K : St → Prop) (o : Option St) : Prop := ∃ s', o = some s' ∧ pwpOps P os K s'
def boxK (P : Cx) (os : List POp) (K : St → Prop) (d : Option Nat) (s : St) (o : Option PObj) : Prop := ∃ x, o = some x ∧ pwpOps P os K ((St.mk s.t (s.H ++ [x])).set d (.ptr s.H.length 0))
def heapK (P : Cx) (os : List POp) (K : St → Prop) (d : Option Nat) (s : St) (o : Option (List PObj)) : Prop := ∃ H, o = some H ∧ pwpOps P os K ((St.mk s.t H).set d .junk)
def entK (P : Cx) (os : List POp) (K : St → Prop) (d : Option Nat) (s : St) (o : Option (PV × List PObj)) : Prop := ∃ r, o = some r ∧ pwpOps P os K ((St.mk s.t r.2).set d r.1)
def callK (P : Cx) (os : List POp) (K : St → Prop) (d : Option Nat) (s : St) (f : Nat) (args : List PV) : Prop := ∃ R, Sum P.prog f args s.H R ∧ (∃ r H', R r H') ∧ ∀ r H', R r H' → pwpOps P os K ((St.mk s.t H').set d r.strip)
def yldK (P : Cx) (os : List POp) (K : St → Prop) (d : Option Nat) (s : St) (id : Nat) (args : List PV) : Prop := ∃ R, P.Y id args s.H R ∧ (∃ r H', R r H') ∧ ∀ r H', R r H' → pwpOps P os K ((St.mk s.t H').set d r.strip)
def pureK (P : Cx) (os : List POp) (K : St → Prop) (d : Option Nat) (s : St) (f : Nat) (args : List PV) : Prop := ∃ r, Pure P.prog f args r ∧ pwpOps P os K (s.set d r.strip)
def nextK (P : Cx) (os : List POp) (K : St → Prop) (d : Option Nat) (s : St) (it : PV) : Prop := NextOK s.H it ∧ ∀ r H', NextR s.H it r H' → pwpOps P os K ((St.mk s.t H').set d r)
/-- The values that a function hands back. -/
def resK (s : St) : List RV → (List PV → Prop) → Prop
  | [], K => K []
  | r :: rs, K => bindS (r.get s) fun p => resK s rs fun ps => K (p :: ps)
def endK (rs : List RV) (R : PV → List PObj → Prop) (ex : Ex) (s : St) : Prop :=
  (ex = .normal ∨ ex = .ret) ∧ resK s rs fun ps => R (pack ps) s.H

section
variable {P : Cx} {pures : List Nat} {n : Nat} {Q : Ex → St → Prop} {K : St → Prop} {s s' : St}

@[congr] theorem seqK_congr {b : PCode} {ex : Ex} (h : s = s') : seqK P pures n b Q ex s = seqK P pures n b Q ex s' := by rw [h]
@[congr] theorem blockK_congr {id : Nat} {ex : Ex} (h : s = s') : blockK id Q ex s = blockK id Q ex s' := by rw [h]
@[congr] theorem condK_congr {a b : PCode} {p p' : PV} (h : p = p') : condK P pures n a b Q s p = condK P pures n a b Q s p' := by rw [h]
@[congr] theorem guardK_congr {o : POp} {os : List POp} {b : Bool} {p p' : PV} (h : p = p') : guardK P o os K s b p = guardK P o os K s b p' := by rw [h]
@[congr] theorem valK_congr {os : List POp} {d : Option Nat} {o o' : Option PV} (h : o = o') : valK P os K d s o = valK P os K d s o' := by rw [h]
@[congr] theorem stK_congr {os : List POp} {o o' : Option St} (h : o = o') : stK P os K o = stK P os K o' := by rw [h]
@[congr] theorem boxK_congr {os : List POp} {d : Option Nat} {o o' : Option PObj} (h : o = o') : boxK P os K d s o = boxK P os K d s o' := by rw [h]
@[congr] theorem heapK_congr {os : List POp} {d : Option Nat} {o o' : Option (List PObj)} (h : o = o') : heapK P os K d s o = heapK P os K d s o' := by rw [h]
@[congr] theorem entK_congr {os : List POp} {d : Option Nat} {o o' : Option (PV × List PObj)} (h : o = o') : entK P os K d s o = entK P os K d s o' := by rw [h]
@[congr] theorem callK_congr {os : List POp} {d : Option Nat} {f : Nat} {l l' : List PV} (h : l = l') (hs : s = s') : callK P os K d s f l = callK P os K d s' f l' := by rw [h, hs]
@[congr] theorem yldK_congr {os : List POp} {d : Option Nat} {f : Nat} {l l' : List PV} (h : l = l') (hs : s = s') : yldK P os K d s f l = yldK P os K d s' f l' := by rw [h, hs]
@[congr] theorem pureK_congr {os : List POp} {d : Option Nat} {f : Nat} {l l' : List PV} (h : l = l') : pureK P os K d s f l = pureK P os K d s f l' := by rw [h]
@[congr] theorem nextK_congr {os : List POp} {d : Option Nat} {p p' : PV} (h : p = p') (hs : s = s') : nextK P os K d s p = nextK P os K d s' p' := by rw [h, hs]
@[congr] theorem pwp_congr {c : PCode} (h : s = s') : pwp P pures n c Q s = pwp P pures n c Q s' := by rw [h]
@[congr] theorem pwpOps_congr {os : List POp} (h : s = s') : pwpOps P os K s = pwpOps P os K s' := by rw [h]
@[congr] theorem endK_congr {rs : List RV} {R : PV → List PObj → Prop} {ex : Ex} (h : s = s') : endK rs R ex s = endK rs R ex s' := by rw [h]

theorem resK_iff {rs : List RV} : ∀ {K : List PV → Prop}, resK s rs K ↔ ∃ ps, rs.mapM (RV.get s) = some ps ∧ K ps := by
  induction rs with
  | nil => intro K; simp [resK]
  | cons r rs ih =>
    intro K
    simp only [resK, bindS, ih, List.mapM_cons, Option.pure_def, Option.bind_eq_bind, Option.bind_eq_some_iff]
    constructor
    · rintro ⟨p, hp, ps, hps, hk⟩; exact ⟨_, ⟨p, hp, ps, hps, rfl⟩, hk⟩
    · rintro ⟨_, ⟨p, hp, ps, hps, he⟩, hk⟩; cases he; exact ⟨p, hp, ps, hps, hk⟩

/-- A call of f, by its compact form. -/
theorem Sum.run {P : Program} (hm : P.follows .mixedOrders = true) {f : Nat} {pc : PCode} {rs : List RV} (hf : FnIs P pures f n pc rs) {args : List PV} {H : List PObj} {R : PV → List PObj → Prop} (hlen : args.length ≤ n)
    (hp : pwp ⟨P, noY, True⟩ pures n pc (endK rs R) (startSt args H)) : Sum P f args H R := by
  refine Sum.of_pwp hm hf hlen (pwp_mono _ (fun ex s h => ?_) hp)
  obtain ⟨h1, h2⟩ := h
  obtain ⟨ps, h3, h4⟩ := resK_iff.1 h2
  exact ⟨h1, ps, h3, h4⟩

/-- A call of an iterator, by its compact form. -/
theorem SumY.run {P : Program} {Y : Nat → List PV → List PObj → (PV → List PObj → Prop) → Prop} (hm : P.follows .mixedOrders = true) {f : Nat} {pc : PCode} {rs : List RV} (hf : FnIs P pures f n pc rs) {args : List PV} {H : List PObj} {R : PV → List PObj → Prop} (hlen : args.length ≤ n)
    (hp : pwp ⟨P, Y, True⟩ pures n pc (endK rs R) (startSt args H)) : SumY P Y f args H R := by
  obtain ⟨fn, c, h1, h2, h3, h4, h5, h6⟩ := hf.ex
  intro w bl π O cargs hH ha hok
  refine ⟨run_enter h1 h2 h3 cargs w, calls_of_pwp (C := ⟨P, Y, True⟩) hm h1 h3 h4 h5 h6 hlen hH ha hok (pwp_mono _ (fun ex s h => ?_) hp)⟩
  obtain ⟨h1, h2⟩ := h
  obtain ⟨ps, h3, h4⟩ := resK_iff.1 h2
  exact ⟨h1, ps, h3, h4⟩

theorem Pure.run {P : Program} (hm : P.follows .mixedOrders = true) {f : Nat} {pc : PCode} {rs : List RV} (hf : FnIs P pures f n pc rs) {args : List PV} {r : PV} (hlen : args.length ≤ n) (hr : RefFree r) (ha : ∀ x ∈ args, RefFree x)
    (hp : pwp ⟨P, noY, True⟩ pures n pc (endK rs fun r' _ => r' = r) (startSt args [])) : Pure P f args r :=
  Pure.of_sum0 (Sum.run hm hf hlen hp) hr ha

/-! ### The rules -/

theorem r_skip : pwp P pures n .skip Q s = Q .normal s := rfl
theorem r_reg {d : Bool} {ops : List POp} : pwp P pures n (.reg d ops) Q s = pwpOps P ops (Q .normal) s := rfl
theorem r_seq {a b : PCode} : pwp P pures n (.seq a b) Q s = pwp P pures n a (seqK P pures n b Q) s := by
  simp only [pwp]; congr
theorem r_cond {c : Arg} {a b : PCode} : pwp P pures n (.cond c a b) Q s = condK P pures n a b Q s (s.arg c) := rfl
theorem r_block {id : Nat} {a : PCode} : pwp P pures n (.block id a) Q s = pwp P pures n a (blockK id Q) s := by
  simp only [pwp]; congr
theorem r_exit {id : Nat} : pwp P pures n (.exit id) Q s = Q (.exit id) s := rfl
theorem r_ret : pwp P pures n .ret Q s = Q .ret s := rfl
theorem r_seqN {b : PCode} : seqK P pures n b Q .normal s = pwp P pures n b Q s := rfl
theorem r_seqR {b : PCode} : seqK P pures n b Q .ret s = Q .ret s := rfl
theorem r_seqE {b : PCode} {i : Nat} : seqK P pures n b Q (.exit i) s = Q (.exit i) s := rfl
theorem r_blockN {id : Nat} : blockK id Q .normal s = Q .normal s := rfl
theorem r_blockR {id : Nat} : blockK id Q .ret s = Q .ret s := rfl
theorem r_blockE {id i : Nat} : blockK id Q (.exit i) s = if i = id then Q .normal s else Q (.exit i) s := rfl
theorem r_condT {a b : PCode} : condK P pures n a b Q s (.v (.bool true)) = pwp P pures n a Q s := by simp [condK]
theorem r_condF {a b : PCode} : condK P pures n a b Q s (.v (.bool false)) = pwp P pures n b Q s := by simp [condK]
theorem r_guardTT {o : POp} {os : List POp} : guardK P o os K s true (.v (.bool true)) = pwpOps P (o :: os) K s := by simp [guardK, gdOf]
theorem r_guardFF {o : POp} {os : List POp} : guardK P o os K s false (.v (.bool false)) = pwpOps P (o :: os) K s := by simp [guardK, gdOf]
theorem r_guardTF {o : POp} {os : List POp} : guardK P o os K s true (.v (.bool false)) = pwpOps P os K (s.set o.dst skipped) := by simp [guardK, gdOf]
theorem r_guardFT {o : POp} {os : List POp} : guardK P o os K s false (.v (.bool true)) = pwpOps P os K (s.set o.dst skipped) := by simp [guardK, gdOf]
theorem r_guardS {o : POp} {os : List POp} {b : Bool} : guardK P o os K s b (.tup []) = pwpOps P os K (s.set o.dst (.tup [])) := by simp [guardK, gdOf, skipped]
theorem r_valS {os : List POp} {d : Option Nat} {p : PV} : valK P os K d s (some p) = pwpOps P os K (s.set d p) := by simp [valK]
theorem r_stS {os : List POp} {s' : St} : stK P os K (some s') = pwpOps P os K s' := by simp [stK]
theorem r_boxS {os : List POp} {d : Option Nat} {x : PObj} : boxK P os K d s (some x) = pwpOps P os K ((St.mk s.t (s.H ++ [x])).set d (.ptr s.H.length 0)) := by simp [boxK]
theorem r_heapS {os : List POp} {d : Option Nat} {H : List PObj} : heapK P os K d s (some H) = pwpOps P os K ((St.mk s.t H).set d .junk) := by simp [heapK]
theorem r_endR {rs : List RV} {R : PV → List PObj → Prop} : endK rs R .ret s = resK s rs fun ps => R (pack ps) s.H := by simp [endK]
theorem r_endN {rs : List RV} {R : PV → List PObj → Prop} : endK rs R .normal s = resK s rs fun ps => R (pack ps) s.H := by simp [endK]
theorem r_res0 {K : List PV → Prop} : resK s [] K = K [] := rfl
theorem r_resT {t : Nat} {rs : List RV} {K : List PV → Prop} : resK s (.tmp t :: rs) K = resK s rs fun ps => K ((s.t t).strip :: ps) := by simp [resK, bindS, RV.get]
theorem r_resC {t k : Nat} {g : Bool} {rs : List RV} {K : List PV → Prop} : resK s (.cell t k g :: rs) K = bindS (loadPV s.H (s.t t) k g) fun p => resK s rs fun ps => K (p :: ps) := rfl

theorem r_nil : pwpOps P [] K s = K s := rfl

variable {d : Option Nat} {aft : List Nat} {os : List POp}

theorem r_guard {g : Nat} {b : Bool} {op : PO} : pwpOps P (⟨d, some (g, b), aft, op⟩ :: os) K s = guardK P ⟨d, none, aft, op⟩ os K s b (s.t g) := rfl

theorem viaVal {op : PO} (h : op.isVal = true) (this : op.isCall = false) : pwpOps P (⟨d, none, aft, op⟩ :: os) K s = valK P os K d s (op.val s) := by
  simp only [pwpOps, pwpOp]
  rw [eq_iff_iff, pwpDo_step (o := ⟨d, none, aft, op⟩) this]
  simp only [step_val h, valK, Option.map_eq_some_iff]
  constructor
  · rintro ⟨_, ⟨p, hp, rfl⟩, hk⟩; exact ⟨p, hp, hk⟩
  · rintro ⟨p, hp, hk⟩; exact ⟨_, ⟨p, hp, rfl⟩, hk⟩

theorem viaStep {op : PO} (h : op.isCall = false) : pwpOps P (⟨d, none, aft, op⟩ :: os) K s = stK P os K (op.step d s) := by
  simp only [pwpOps, pwpOp]
  rw [eq_iff_iff, pwpDo_step (o := ⟨d, none, aft, op⟩) h]
  rfl

theorem r_copy {x : Arg} : pwpOps P (⟨d, none, aft, .copy x⟩ :: os) K s = pwpOps P os K (s.set d (s.arg x)) := by
  rw [viaVal rfl rfl]; simp [PO.val, valK]
def pickPV (c a b : PV) : Option PV := match c with | .v (.bool t) => some (if t then a else b) | _ => none
theorem r_pick {c a b : Arg} : pwpOps P (⟨d, none, aft, .pick c a b⟩ :: os) K s = valK P os K d s (pickPV (s.arg c) (s.arg a) (s.arg b)) := by
  rw [viaVal rfl rfl]; rfl
theorem r_load {p : Arg} {k : Nat} {g : Bool} : pwpOps P (⟨d, none, aft, .load p k g⟩ :: os) K s = valK P os K d s (loadPV s.H (s.arg p) k g) := by
  rw [viaVal rfl rfl]; rfl
def nilckPV (p : PV) : Option PV := match p with | .ptr i o => some (.ptr i o) | .ept cs o => some (.ept cs o) | .clo f cs => some (.clo f cs) | _ => none
theorem r_nilck {x : Arg} : pwpOps P (⟨d, none, aft, .nilck x⟩ :: os) K s = valK P os K d s (nilckPV (s.arg x)) := by
  rw [viaVal rfl rfl]; rfl
def paddPV (p : PV) (n : Nat) : Option PV := match p with | .ptr i o => some (.ptr i (o + n)) | .ept cs o => some (.ept cs (o + n)) | _ => none
theorem r_padd {x : Arg} {n : Nat} : pwpOps P (⟨d, none, aft, .padd x n⟩ :: os) K s = valK P os K d s (paddPV (s.arg x) n) := by
  rw [viaVal rfl rfl]; rfl
def pidxAPV (p i : PV) (n k : Nat) : Option PV := match p, i with
    | .ptr id o, .v (.int _ j) => if 0 ≤ j ∧ j < n then some (.ptr id (o + j.toNat * k)) else none
    | .ept cs o, .v (.int _ j) => if 0 ≤ j ∧ j < n then some (.ept cs (o + j.toNat * k)) else none
    | _, _ => none
theorem r_pidxA {x i : Arg} {n k : Nat} : pwpOps P (⟨d, none, aft, .pidxA x i n k⟩ :: os) K s = valK P os K d s (pidxAPV (s.arg x) (s.arg i) n k) := by
  rw [viaVal rfl rfl]; rfl
def pidxSPV (p i : PV) (k : Nat) : Option PV := match p, i with
    | .slc _ xs, .v (.int _ j) => if 0 ≤ j then (xs[j.toNat]?).bind fun e => if e.cells.length = k then some (.ept e.cells 0) else none else none
    | .hsl id o n _, .v (.int _ j) => if 0 ≤ j ∧ j < n then some (.ptr id (o + j.toNat * k)) else none
    | _, _ => none
theorem r_pidxS {x i : Arg} {k : Nat} : pwpOps P (⟨d, none, aft, .pidxS x i k⟩ :: os) K s = valK P os K d s (pidxSPV (s.arg x) (s.arg i) k) := by
  rw [viaVal rfl rfl]; rfl
def fldPV (p : PV) (off k : Nat) (g : Bool) : Option PV := match p with | .agg cs => (cellsAt cs off k).bind fun l => mkAgg g (l.map PV.strip) | _ => none
theorem r_fld {x : Arg} {o k : Nat} {g : Bool} : pwpOps P (⟨d, none, aft, .fld x o k g⟩ :: os) K s = valK P os K d s (fldPV (s.arg x) o k g) := by
  rw [viaVal rfl rfl]; rfl
def idxPV (p i : PV) (n k : Nat) (g : Bool) : Option PV := match p, i with
    | .agg cs, .v (.int _ j) => if 0 ≤ j ∧ j < n then (cellsAt cs (j.toNat * k) k).bind fun l => mkAgg g (l.map PV.strip) else none
    | _, _ => none
theorem r_idx {x i : Arg} {m k : Nat} {g : Bool} : pwpOps P (⟨d, none, aft, .idx x i m k g⟩ :: os) K s = valK P os K d s (idxPV (s.arg x) (s.arg i) m k g) := by
  rw [viaVal rfl rfl]; rfl
def byteAtPV (p i : PV) : Option PV := match p, i with
    | .v (.string b), .v (.int _ j) => if 0 ≤ j then (b[j.toNat]?).map fun c => .v (.int .u8 c.toNat) else none
    | _, _ => none
theorem r_byteAt {x i : Arg} : pwpOps P (⟨d, none, aft, .byteAt x i⟩ :: os) K s = valK P os K d s (byteAtPV (s.arg x) (s.arg i)) := by
  rw [viaVal rfl rfl]; rfl
theorem r_build {z : List PV} {ps : List (Nat × Nat × Arg)} : pwpOps P (⟨d, none, aft, .build z ps⟩ :: os) K s = valK P os K d s ((buildPV s (z.map PV.strip) ps).map .agg) := by
  rw [viaVal rfl rfl]; rfl
def build1 (cs : List PV) (off k : Nat) (x : PV) : Option (List PV) := if (x.cells.map PV.strip).length = k ∧ storable (x.cells.map PV.strip) = true then setAt cs off (x.cells.map PV.strip) else none
theorem r_build0 {cs : List PV} : buildPV s cs [] = some cs := rfl
theorem r_buildS {cs : List PV} {off k : Nat} {x : Arg} {ps : List (Nat × Nat × Arg)} : buildPV s cs ((off, k, x) :: ps) = (build1 cs off k (s.arg x)).bind fun cs' => buildPV s cs' ps := by
  simp only [buildPV, build1]
  split <;> rfl
def boundP (y dflt : Nat) : Option PV → Option Nat
  | none => some dflt
  | some (.v (.int _ i)) => if 0 ≤ i ∧ i ≤ y then some i.toNat else none
  | _ => none
theorem boundOf_P {y d : Nat} {lo : Option Arg} : boundOf s y d lo = boundP y d (lo.map s.arg) := by
  cases lo with
  | none => rfl
  | some a =>
    simp only [boundOf, Option.map_some]
    split
    · rename_i e; rw [e]; rfl
    · rename_i h
      unfold boundP
      split
      · rename_i e; cases e
      · rename_i e; exact absurd (Option.some.inj e) (h _ _)
      · rfl
def slicePV (p : PV) (lo hi mx : Option PV) (k : Nat) : Option PV := match p with
    | .slc _ xs => match mx with
      | none => (boundP xs.length xs.length hi).bind fun h => (boundP h 0 lo).bind fun l => if l = 0 ∨ (xs.all fun p => p.cells.length == k) = true then some (.slc false ((xs.take h).drop l)) else none
      | some m' => if hi.isNone then none else (boundP xs.length 0 (some m')).bind fun m => (boundP m 0 hi).bind fun h => (boundP h 0 lo).bind fun l => if l = 0 ∨ (xs.all fun p => p.cells.length == k) = true then some (.slc (decide (h = m)) ((xs.take h).drop l)) else none
    | _ => none
theorem r_slice {x : Arg} {lo hi mx : Option Arg} {k : Nat} : pwpOps P (⟨d, none, aft, .slice x lo hi mx k⟩ :: os) K s = valK P os K d s (slicePV (s.arg x) (lo.map s.arg) (hi.map s.arg) (mx.map s.arg) k) := by
  rw [viaVal rfl rfl]
  congr 1
  simp only [PO.val, slicePV]
  generalize s.arg x = q
  cases q <;> try rfl
  cases mx with
  | none => simp only [boundOf_P, Option.map_none]
  | some m => simp only [boundOf_P, Option.map_some, Option.isNone_map]
def sslicePV (p : PV) (lo hi : Option PV) : Option PV := match p with
    | .v (.string b) => (boundP b.size b.size hi).bind fun h => (boundP h 0 lo).map fun l => .v (.string (b.extract l h))
    | _ => none
theorem r_sslice {x : Arg} {lo hi : Option Arg} : pwpOps P (⟨d, none, aft, .sslice x lo hi⟩ :: os) K s = valK P os K d s (sslicePV (s.arg x) (lo.map s.arg) (hi.map s.arg)) := by
  rw [viaVal rfl rfl]
  congr 1
  simp only [PO.val, sslicePV]
  generalize s.arg x = q
  cases q <;> try rfl
  rename_i v
  cases v <;> try rfl
  simp only [boundOf_P]
def lenPV (p : PV) : Option PV := match p with
    | .slc _ xs => some (.v (.int .i64 xs.length))
    | .hsl _ _ n _ => some (.v (.int .i64 n))
    | _ => none
theorem r_len {x : Arg} : pwpOps P (⟨d, none, aft, .len x⟩ :: os) K s = valK P os K d s (lenPV (s.arg x)) := by
  rw [viaVal rfl rfl]; rfl
def slenPV (p : PV) : Option PV := match p with
    | .v (.string b) => some (.v (.int .i64 b.size))
    | _ => none
theorem r_slen {x : Arg} : pwpOps P (⟨d, none, aft, .slen x⟩ :: os) K s = valK P os K d s (slenPV (s.arg x)) := by
  rw [viaVal rfl rfl]; rfl
theorem r_bin {op : BinOp} {x y : Arg} : pwpOps P (⟨d, none, aft, .bin op x y⟩ :: os) K s = valK P os K d s (binPV op (s.arg x) (s.arg y)) := by
  rw [viaVal rfl rfl]; rfl
def eqvPV (neg : Bool) (ks : List Nat) (p q : PV) : Option PV := match p, q with
    | .agg xs, .agg ys => (eqCells ks xs ys).map fun b => .v (.bool (if neg then !b else b))
    | _, _ => none
theorem r_eqv {neg : Bool} {ks : List Nat} {x y : Arg} : pwpOps P (⟨d, none, aft, .eqv neg ks x y⟩ :: os) K s = valK P os K d s (eqvPV neg ks (s.arg x) (s.arg y)) := by
  rw [viaVal rfl rfl]; rfl
def eqbPV (neg : Bool) (p q : PV) : Option PV := match p, q with
    | .v (.bool b), .v (.bool c) => some (.v (.bool (if neg then !(b == c) else b == c)))
    | _, _ => none
theorem r_eqb {neg : Bool} {x y : Arg} : pwpOps P (⟨d, none, aft, .eqb neg x y⟩ :: os) K s = valK P os K d s (eqbPV neg (s.arg x) (s.arg y)) := by
  rw [viaVal rfl rfl]; rfl
theorem r_eqp {neg : Bool} {kd : Nat} {x y : Arg} : pwpOps P (⟨d, none, aft, .eqp neg kd x y⟩ :: os) K s = valK P os K d s ((eqpPV kd (s.arg x) (s.arg y)).map fun b => PV.v (.bool (if neg then !b else b))) := by
  rw [viaVal rfl rfl]; rfl
theorem r_un {op : UnOp} {x : Arg} : pwpOps P (⟨d, none, aft, .un op x⟩ :: os) K s = valK P os K d s (unPV op (s.arg x)) := by
  rw [viaVal rfl rfl]; rfl
def convPV (k : IntKind) (p : PV) : Option PV := match p with | .v (.int _ n) => some (.v (.int k (k.wrap n))) | _ => none
theorem r_conv {k : IntKind} {x : Arg} : pwpOps P (⟨d, none, aft, .conv k x⟩ :: os) K s = valK P os K d s (convPV k (s.arg x)) := by
  rw [viaVal rfl rfl]; rfl
def strcpPV (p : PV) : Option PV := match p with | .v (.string b) => some (.v (.string b)) | _ => none
theorem r_strcp {x : Arg} : pwpOps P (⟨d, none, aft, .strcp x⟩ :: os) K s = valK P os K d s (strcpPV (s.arg x)) := by
  rw [viaVal rfl rfl]; rfl
def extPV (p : PV) (i : Nat) : Option PV := match p with | .tup l => (l[i]?).map PV.strip | _ => none
theorem r_ext {x : Arg} {i : Nat} : pwpOps P (⟨d, none, aft, .ext x i⟩ :: os) K s = valK P os K d s (extPV (s.arg x) i) := by
  rw [viaVal rfl rfl]; rfl
theorem r_mkclo {f : Nat} {xs : List Arg} : pwpOps P (⟨d, none, aft, .mkclo f xs⟩ :: os) K s = pwpOps P os K (s.set d (.clo f (xs.map s.arg))) := by
  rw [viaVal rfl rfl]; simp [PO.val, valK]
theorem r_mm2 {b : Bool} {x y : Arg} : pwpOps P (⟨d, none, aft, .mm b [x, y]⟩ :: os) K s = valK P os K d s (mm2 b (s.arg x) (s.arg y)) := by
  rw [viaVal rfl rfl]; simp [PO.val, valK]
theorem r_take {x : Nat} : pwpOps P (⟨d, none, aft, .take x⟩ :: os) K s = stK P os K (if d = some x then none else some ((St.mk (upd s.t x (s.t x).strip) s.H).set d (s.t x))) := by
  rw [viaStep rfl]; rfl
theorem r_alloc {z : List PV} : pwpOps P (⟨d, none, aft, .alloc z⟩ :: os) K s = pwpOps P os K ((St.mk s.t (s.H ++ [.cells z])).set d (.ptr s.H.length 0)) := by
  rw [viaStep rfl]; simp [PO.step, stK]
def boxPV (x : PV) : Option PObj := if storable x.cells then some (.cells (x.cells.map PV.strip)) else none
theorem r_box {x : Arg} : pwpOps P (⟨d, none, aft, .box x⟩ :: os) K s = boxK P os K d s (boxPV (s.arg x)) := by
  rw [viaStep rfl]
  simp only [PO.step, boxPV]
  split <;> simp [stK, boxK]
def loadTSt (d : Option Nat) (s : St) (p : PV) : Option St := match p with
    | .ptr id off => (objCells s.H id).bind fun cs => (cs[off]?).map fun x => (St.mk s.t (s.H.set id (.cells (cs.set off x.strip)))).set d x
    | .ept cs off => (cs[off]?).map fun x => s.set d x.strip
    | _ => none
theorem r_loadT {p : Arg} : pwpOps P (⟨d, none, aft, .loadT p⟩ :: os) K s = stK P os K (loadTSt d s (s.arg p)) := viaStep rfl
theorem r_store {p x : Arg} {k : Nat} : pwpOps P (⟨d, none, aft, .store p x k⟩ :: os) K s = heapK P os K d s (storePV s.H (s.arg p) (s.arg x) k) := by
  rw [viaStep rfl]
  simp only [PO.step, stK, heapK, Option.map_eq_some_iff, eq_iff_iff]
  constructor
  · rintro ⟨_, ⟨p, hp, rfl⟩, hk⟩; exact ⟨p, hp, hk⟩
  · rintro ⟨p, hp, hk⟩; exact ⟨_, ⟨p, hp, rfl⟩, hk⟩
def storeTSt (d : Option Nat) (s : St) (p x : PV) (n : Nat) : Option St := match p, x.one with
    | .ptr id off, true => (objCells s.H id).bind fun cs => if off < cs.length then
        some ((St.mk (upd s.t n x.strip) (s.H.set id (.cells (cs.set off x)))).set d .junk) else none
    | _, _ => none
theorem r_storeT {p : Arg} {x : Nat} : pwpOps P (⟨d, none, aft, .storeT p x⟩ :: os) K s = stK P os K (storeTSt d s (s.arg p) (s.t x) x) := viaStep rfl
def bslPV (k : Nat) (l : List PV) : Option PV := if (l.all fun p => p.cells.length == k && storable p.cells) = true then some (.slc true (l.map stripAll)) else none
theorem r_bslice {k : Nat} {ps : List Arg} : pwpOps P (⟨d, none, aft, .bslice k ps⟩ :: os) K s = valK P os K d s (bslPV k (ps.map s.arg)) := by
  rw [viaStep rfl]
  simp only [PO.step, bslPV]
  split <;> simp [stK, valK]
def appPV (p q : PV) (k bytes : Nat) : Option PV := match p, q with
    | .slc true xs, .slc _ ys =>
      if (xs.length + ys.length) * bytes ≤ 140737488355328 ∧ xs.length + ys.length ≤ 9223372036854775807 ∧ (ys.all fun p => p.cells.length == k && storable p.cells) = true ∧ (xs.all fun p => p.cells.length == k) = true then
        some (.slc true (xs ++ ys)) else none
    | _, _ => none
theorem r_append {x : Nat} {y : Arg} {k b : Nat} : pwpOps P (⟨d, none, aft, .append x y k b⟩ :: os) K s = valK P os K d (St.mk (upd s.t x (s.t x).strip) s.H) (if d = some x then none else appPV (s.t x) (s.arg y) k b) := by
  rw [viaStep rfl]
  simp only [PO.step, appPV]
  split
  · rename_i xs o ys e1 e2
    simp only [e1, e2]
    by_cases hd : d = some x
    · simp [hd, stK, valK]
    · by_cases hc : (xs.length + ys.length) * b ≤ 140737488355328 ∧ xs.length + ys.length ≤ 9223372036854775807 ∧ (ys.all fun p => p.cells.length == k && storable p.cells) = true ∧ (xs.all fun p => p.cells.length == k) = true
      · rw [if_pos ⟨hc.1, hc.2.1, hc.2.2.1, hc.2.2.2, hd⟩, if_neg hd, if_pos hc]
        simp [stK, valK]
      · rw [if_neg (fun h => hc ⟨h.1, h.2.1, h.2.2.1, h.2.2.2.1⟩), if_neg hd, if_neg hc]
        simp [stK, valK]
  · by_cases hd : d = some x <;> simp [hd, stK, valK]
theorem r_pcall {f : Nat} {xs : List Arg} : pwpOps P (⟨d, none, aft, .pcall f xs⟩ :: os) K s = pureK P os K d s f (xs.map s.arg) := rfl
theorem r_call {f : Nat} {xs : List Arg} : pwpOps P (⟨d, none, aft, .call f xs⟩ :: os) K s = callK P os K d s f (xs.map s.arg) := rfl
def cloK (P : Cx) (os : List POp) (K : St → Prop) (d : Option Nat) (s : St) (f : PV) (args : List PV) : Prop := ∃ R, (match f with | .clo g cap => Sum P.prog g (args ++ cap) s.H R | .yld id => P.Y id args s.H R | _ => False) ∧ (∃ r H', R r H') ∧ ∀ r H', R r H' → pwpOps P os K ((St.mk s.t H').set d r.strip)
@[congr] theorem cloK_congr {f f' : PV} {l l' : List PV} (hf : f = f') (h : l = l') (hs : s = s') : cloK P os K d s f l = cloK P os K d s' f' l' := by rw [hf, h, hs]
theorem r_callv {f : Arg} {xs : List Arg} : pwpOps P (⟨d, none, aft, .callv f xs⟩ :: os) K s = cloK P os K d s (s.arg f) (xs.map s.arg) := by
  simp only [pwpOps, pwpOp, pwpDo, PO.big, cloK]
  generalize s.arg f = p
  cases p <;> rfl
theorem r_clo {g : Nat} {cap args : List PV} : cloK P os K d s (.clo g cap) args = callK P os K d s g (args ++ cap) := rfl
theorem r_yld {id : Nat} {args : List PV} : cloK P os K d s (.yld id) args = yldK P os K d s id args := rfl
theorem r_mnext {it : Arg} : pwpOps P (⟨d, none, aft, .mnext it⟩ :: os) K s = nextK P os K d s (s.arg it) := rfl
def loadEPV (p : PV) (k : Nat) (g : Bool) : Option PV := match p with | .ept cs off => (cellsAt cs off k).bind fun l => mkAgg g (l.map PV.strip) | _ => none
theorem r_loadE {p : Arg} {k : Nat} {g : Bool} : pwpOps P (⟨d, none, aft, .loadE p k g⟩ :: os) K s = valK P os K d s (loadEPV (s.arg p) k g) := by
  rw [viaVal rfl rfl]; rfl
def boxFPV (x : PV) : Option PV := if storable x.cells then some (.ept (x.cells.map PV.strip) 0) else none
theorem r_boxF {x : Arg} : pwpOps P (⟨d, none, aft, .boxF x⟩ :: os) K s = valK P os K d s (boxFPV (s.arg x)) := by
  rw [viaVal rfl rfl]; rfl
theorem r_allocF {k : Nat} : pwpOps P (⟨d, none, aft, .allocF k⟩ :: os) K s = pwpOps P os K (s.set d (.fb k)) := by
  rw [viaVal rfl rfl]; simp [PO.val, valK]
theorem r_nilsl : pwpOps P (⟨d, none, aft, .nilsl⟩ :: os) K s = pwpOps P os K (s.set d (.slc true [])) := by
  rw [viaVal rfl rfl]; simp [PO.val, valK]
def tobytesPV (p : PV) : Option PV := match p with | .v (.string b) => some (.slc false (b.toList.map fun c => .v (.int .u8 c.toNat))) | _ => none
theorem r_tobytes {x : Arg} : pwpOps P (⟨d, none, aft, .tobytes x⟩ :: os) K s = valK P os K d s (tobytesPV (s.arg x)) := by
  rw [viaVal rfl rfl]; rfl
def storeFSt (d : Option Nat) (s : St) (p : Nat) (q x : PV) (k : Nat) : Option St := match q with
    | .fb n => if n = k ∧ x.cells.length = k ∧ storable x.cells = true ∧ d ≠ some p then some ((St.mk (upd s.t p (.ept (x.cells.map PV.strip) 0)) s.H).set d .junk) else none
    | _ => none
theorem r_storeF {p : Nat} {x : Arg} {k : Nat} : pwpOps P (⟨d, none, aft, .storeF p x k⟩ :: os) K s = stK P os K (storeFSt d s p (s.t p) (s.arg x) k) := viaStep rfl
theorem r_mkmap : pwpOps P (⟨d, none, aft, .mkmap⟩ :: os) K s = pwpOps P os K ((St.mk s.t (s.H ++ [.map 0 []])).set d (.map s.H.length)) := by
  rw [viaStep rfl]; simp [PO.step, stK]
theorem r_mlen {m : Arg} : pwpOps P (⟨d, none, aft, .mlen m⟩ :: os) K s = valK P os K d s ((mapOf s.H (s.arg m)).map fun es => .v (.int .i64 es.length)) := by
  rw [viaVal rfl rfl]; rfl
theorem r_lookup {ks : Bool × List Nat} {z : PV} {ok : Bool} {m k : Arg} : pwpOps P (⟨d, none, aft, .lookup ks z ok m k⟩ :: os) K s = valK P os K d s (lookPV s.H ks z ok (s.arg m) (s.arg k)) := by
  rw [viaVal rfl rfl]; rfl
theorem r_mcur {it : Arg} : pwpOps P (⟨d, none, aft, .mcur it⟩ :: os) K s = valK P os K d s (mcurPV s.H (s.arg it)) := by
  rw [viaVal rfl rfl]; rfl
theorem r_mentry {ks : Bool × List Nat} {z : PV} {m k : Arg} : pwpOps P (⟨d, none, aft, .mentry ks z m k⟩ :: os) K s = entK P os K d s (mentryPV s.H ks z (s.arg m) (s.arg k)) := by
  rw [viaStep rfl]
  simp only [PO.step, stK, entK, Option.map_eq_some_iff, eq_iff_iff]
  constructor
  · rintro ⟨_, ⟨p, hp, rfl⟩, hk⟩; exact ⟨p, hp, hk⟩
  · rintro ⟨p, hp, hk⟩; exact ⟨_, ⟨p, hp, rfl⟩, hk⟩
theorem r_mstore {m st x : Arg} : pwpOps P (⟨d, none, aft, .mstore m st x⟩ :: os) K s = heapK P os K d s (mstorePV s.H (s.arg m) (s.arg st) (s.arg x)) := by
  rw [viaStep rfl]
  simp only [PO.step, stK, heapK, Option.map_eq_some_iff, eq_iff_iff]
  constructor
  · rintro ⟨_, ⟨p, hp, rfl⟩, hk⟩; exact ⟨p, hp, hk⟩
  · rintro ⟨p, hp, hk⟩; exact ⟨_, ⟨p, hp, rfl⟩, hk⟩
theorem r_mupd {ks : Bool × List Nat} {m k x : Arg} : pwpOps P (⟨d, none, aft, .mupd ks m k x⟩ :: os) K s = heapK P os K d s (mupdPV s.H ks (s.arg m) (s.arg k) (s.arg x)) := by
  rw [viaStep rfl]
  simp only [PO.step, stK, heapK, Option.map_eq_some_iff, eq_iff_iff]
  constructor
  · rintro ⟨_, ⟨p, hp, rfl⟩, hk⟩; exact ⟨p, hp, hk⟩
  · rintro ⟨p, hp, hk⟩; exact ⟨_, ⟨p, hp, rfl⟩, hk⟩
theorem r_mrange {m : Arg} : pwpOps P (⟨d, none, aft, .mrange m⟩ :: os) K s = boxK P os K d s (mrangePV s.H (s.arg m)) := by
  rw [viaStep rfl]
  simp only [PO.step, stK, boxK, Option.map_eq_some_iff, eq_iff_iff]
  constructor
  · rintro ⟨_, ⟨p, hp, rfl⟩, hk⟩; exact ⟨p, hp, hk⟩
  · rintro ⟨p, hp, hk⟩; exact ⟨_, ⟨p, hp, rfl⟩, hk⟩
def mksliceSt (d : Option Nat) (s : St) (z : List PV) (b : Nat) (l c : PV) : Option St := match l, c with
    | .v (.int .i64 n), .v (.int .i64 m) => if n = m ∧ 0 ≤ n ∧ n ≤ 9223372036854775807 ∧ n * b ≤ 140737488355328 then
        some ((St.mk s.t (s.H ++ [.cells (List.replicate n.toNat z).flatten])).set d (.hsl s.H.length 0 n.toNat n.toNat)) else none
    | _, _ => none
theorem r_mkslice {z : List PV} {b : Nat} {l c : Arg} : pwpOps P (⟨d, none, aft, .mkslice z b l c⟩ :: os) K s = stK P os K (mksliceSt d s z b (s.arg l) (s.arg c)) := viaStep rfl

/-! State -/
theorem r_arg_t {t : Nat → PV} {H : List PObj} {n : Nat} : (St.mk t H).arg (.t n) = (t n).strip := rfl
theorem r_arg_c {p : PV} : s.arg (.c p) = p := rfl
theorem r_set {t : Nat → PV} {H : List PObj} {n : Nat} {p : PV} : (St.mk t H).set (some n) p = St.mk (upd t n p) H := rfl
theorem r_setN {p : PV} : s.set none p = s := rfl
theorem r_upd {f : Nat → PV} {a c : Nat} {b : PV} : upd f a b c = if c = a then b else f c := rfl
theorem r_t {t : Nat → PV} {H : List PObj} : (St.mk t H).t = t := rfl
theorem r_skipped : skipped = .tup [] := rfl
theorem r_H {t : Nat → PV} {H : List PObj} : (St.mk t H).H = H := rfl

def noT : Nat → PV := fun _ => .junk
theorem start0 {H : List PObj} : startSt [] H = ⟨noT, H⟩ := rfl
theorem getD_upd (p : PV) (l : List PV) (k : Nat) : (fun i => ((p :: l).getD (i - k) .junk).strip) = fun i => (if i - k = 0 then p else l.getD (i - k - 1) .junk).strip := by
  funext i
  cases i - k <;> simp
theorem start1 {a : PV} {H : List PObj} : startSt [a] H = ⟨upd noT 0 a.strip, H⟩ := by
  refine St.ext' (fun t => ?_) rfl
  match t with | 0 => rfl | t + 1 => simp [startSt, upd, noT, PV.strip]
theorem start2 {a b : PV} {H : List PObj} : startSt [a, b] H = ⟨upd (upd noT 0 a.strip) 1 b.strip, H⟩ := by
  refine St.ext' (fun t => ?_) rfl
  match t with | 0 => rfl | 1 => rfl | t + 2 => simp [startSt, upd, noT, PV.strip]
theorem start3 {a b c : PV} {H : List PObj} : startSt [a, b, c] H = ⟨upd (upd (upd noT 0 a.strip) 1 b.strip) 2 c.strip, H⟩ := by
  refine St.ext' (fun t => ?_) rfl
  match t with | 0 => rfl | 1 => rfl | 2 => rfl | t + 3 => simp [startSt, upd, noT, PV.strip]
theorem start4 {a b c e : PV} {H : List PObj} : startSt [a, b, c, e] H = ⟨upd (upd (upd (upd noT 0 a.strip) 1 b.strip) 2 c.strip) 3 e.strip, H⟩ := by
  refine St.ext' (fun t => ?_) rfl
  match t with | 0 => rfl | 1 => rfl | 2 => rfl | 3 => rfl | t + 4 => simp [startSt, upd, noT, PV.strip]
theorem start5 {a b c e f : PV} {H : List PObj} : startSt [a, b, c, e, f] H = ⟨upd (upd (upd (upd (upd noT 0 a.strip) 1 b.strip) 2 c.strip) 3 e.strip) 4 f.strip, H⟩ := by
  refine St.ext' (fun t => ?_) rfl
  match t with | 0 => rfl | 1 => rfl | 2 => rfl | 3 => rfl | 4 => rfl | t + 5 => simp [startSt, upd, noT, PV.strip]

/-! Values -/
theorem s_v {x : Value} : (PV.v x).strip = .v x := rfl
theorem s_ptr {a b : Nat} : (PV.ptr a b).strip = .ptr a b := rfl
theorem s_slcF {xs : List PV} : (PV.slc false xs).strip = .slc false xs := rfl
theorem s_slcN {o : Bool} : (PV.slc o []).strip = .slc o [] := by simp [PV.strip]
theorem s_slcC {x : PV} {xs : List PV} {o : Bool} : (PV.slc o (x :: xs)).strip = .slc false (x :: xs) := by simp [PV.strip]
theorem s_ept {cs : List PV} {o : Nat} : (PV.ept cs o).strip = .ept cs o := rfl
theorem s_clo {f : Nat} {cs : List PV} : (PV.clo f cs).strip = .clo f cs := rfl
theorem s_agg {cs : List PV} : (PV.agg cs).strip = .agg cs := rfl
theorem s_tup {cs : List PV} : (PV.tup cs).strip = .tup cs := rfl
theorem s_map {n : Nat} : (PV.map n).strip = .map n := rfl
theorem s_junk : PV.junk.strip = .junk := rfl
theorem s_ifc {n : Nat} {p : PV} : (PV.ifc n p).strip = .ifc n p := rfl
theorem s_fb {k : Nat} : (PV.fb k).strip = .junk := rfl
theorem s_yld {k : Nat} : (PV.yld k).strip = .yld k := rfl
theorem s_hsl {a b c d : Nat} : (PV.hsl a b c d).strip = .hsl a b c d := rfl

theorem l_ptr {H : List PObj} {id off k : Nat} {g : Bool} : loadPV H (.ptr id off) k g = (objCells H id).bind fun cs => (cellsAt cs off k).bind fun l => mkAgg g (l.map PV.strip) := rfl
theorem l_ept {H : List PObj} {cs : List PV} {off k : Nat} {g : Bool} : loadPV H (.ept cs off) k g = (cellsAt cs off k).bind fun l => mkAgg g (l.map PV.strip) := rfl
theorem o_zero {o : List PV} {H : List PObj} : objCells (.cells o :: H) 0 = some o := rfl
theorem o_succ {o : PObj} {H : List PObj} {i : Nat} : objCells (o :: H) (i + 1) = objCells H i := rfl
theorem m_t {l : List PV} : mkAgg true l = some (.agg l) := rfl
theorem m_f {x : PV} : mkAgg false [x] = some x := rfl
theorem st_ptr {H : List PObj} {id off k : Nat} {x : PV} : storePV H (.ptr id off) x k = (objCells H id).bind fun cs => if x.cells.length = k ∧ storable x.cells = true then (setAt cs off (x.cells.map PV.strip)).map fun cs' => H.set id (.cells cs') else none := rfl
theorem c_agg {l : List PV} : (PV.agg l).cells = l := rfl
theorem c_v {x : Value} : (PV.v x).cells = [.v x] := rfl
theorem c_ptr {a b : Nat} : (PV.ptr a b).cells = [.ptr a b] := rfl
theorem c_slc {o : Bool} {xs : List PV} : (PV.slc o xs).cells = [.slc o xs] := rfl
theorem c_map {a : Nat} : (PV.map a).cells = [.map a] := rfl
theorem c_clo {f : Nat} {xs : List PV} : (PV.clo f xs).cells = [.clo f xs] := rfl
theorem sb_nil : storable [] = true := rfl
theorem sb_cons {x : PV} {l : List PV} : storable (x :: l) = (x.one && storable l) := by simp [storable]
theorem one_v {x : Value} : (PV.v x).one = true := rfl
theorem one_ptr {a b : Nat} : (PV.ptr a b).one = true := rfl
theorem one_slc {o : Bool} {xs : List PV} : (PV.slc o xs).one = true := rfl
theorem one_map {a : Nat} : (PV.map a).one = true := rfl
theorem one_clo {f : Nat} {xs : List PV} : (PV.clo f xs).one = true := rfl
theorem one_ept {f : Nat} {xs : List PV} : (PV.ept xs f).one = true := rfl

end
end Go.Pi
/- Leaf values under names, and what operations make of them. -/
namespace Go.Pi

def i (x : Int) : PV := .v (.int .i64 x)
def u (x : BitVec 64) : PV := .v (.int .u64 x.toNat)
def y (x : Nat) : PV := .v (.int .u8 x)
def bo (x : Bool) : PV := .v (.bool x)
def tx (x : List UInt8) : PV := .v (.string ⟨x.toArray⟩)

def w64 (x : Int) : Int := IntKind.i64.wrap x

theorem w64_id {x : Int} (h1 : -9223372036854775808 ≤ x) (h2 : x < 9223372036854775808) : w64 x = x := by
  have e : w64 x = if 9223372036854775808 ≤ x % 18446744073709551616 then x % 18446744073709551616 - 18446744073709551616 else x % 18446744073709551616 := by
    unfold w64 IntKind.wrap
    simp only [IntKind.signed, Bool.true_and, decide_eq_true_eq]
    rfl
  rw [e]
  split <;> omega

theorem wrap_u64 (x : Int) : IntKind.u64.wrap x = (BitVec.ofInt 64 x).toNat := by
  simp [IntKind.wrap, IntKind.bits, IntKind.signed, BitVec.toNat_ofInt]
  omega

theorem ofInt_toNat (x : BitVec 64) : BitVec.ofInt 64 (x.toNat : Int) = x := by
  apply BitVec.eq_of_toNat_eq
  have := x.isLt
  simp [BitVec.toNat_ofInt]

/-! Their shape -/
theorem v_si {x : Int} : (i x).strip = i x := rfl
theorem v_su {x : BitVec 64} : (u x).strip = u x := rfl
theorem v_sy {x : Nat} : (y x).strip = y x := rfl
theorem v_sb {x : Bool} : (bo x).strip = bo x := rfl
theorem v_sx {x : List UInt8} : (tx x).strip = tx x := rfl
theorem v_ci {x : Int} : (i x).cells = [i x] := rfl
theorem v_cu {x : BitVec 64} : (u x).cells = [u x] := rfl
theorem v_cy {x : Nat} : (y x).cells = [y x] := rfl
theorem v_cb {x : Bool} : (bo x).cells = [bo x] := rfl
theorem v_cx {x : List UInt8} : (tx x).cells = [tx x] := rfl
theorem v_oi {x : Int} : (i x).one = true := rfl
theorem v_ou {x : BitVec 64} : (u x).one = true := rfl
theorem v_oy {x : Nat} : (y x).one = true := rfl
theorem v_ob {x : Bool} : (bo x).one = true := rfl
theorem v_ox {x : List UInt8} : (tx x).one = true := rfl

section
variable {P : Cx} {pures : List Nat} {n : Nat} {Q : Ex → St → Prop} {K : St → Prop} {s : St} {o : POp} {os : List POp} {a b : PCode}
theorem v_condT : condK P pures n a b Q s (bo true) = pwp P pures n a Q s := r_condT
theorem v_condF : condK P pures n a b Q s (bo false) = pwp P pures n b Q s := r_condF
theorem v_guardTT : guardK P o os K s true (bo true) = pwpOps P (o :: os) K s := r_guardTT
theorem v_guardFF : guardK P o os K s false (bo false) = pwpOps P (o :: os) K s := r_guardFF
theorem v_guardTF : guardK P o os K s true (bo false) = pwpOps P os K (s.set o.dst skipped) := r_guardTF
theorem v_guardFT : guardK P o os K s false (bo true) = pwpOps P os K (s.set o.dst skipped) := r_guardFT

/-- Where it goes on depends on c. -/
theorem condK_by (c : Bool) (h1 : c = true → pwp P pures n a Q s) (h2 : c = false → pwp P pures n b Q s) : condK P pures n a b Q s (bo c) := ⟨c, rfl, h1, h2⟩
theorem guardK_by {g : Bool} (c : Bool) (h1 : c = g → pwpOps P (o :: os) K s) (h2 : c ≠ g → pwpOps P os K (s.set o.dst skipped)) : guardK P o os K s g (bo c) := ⟨c == g, rfl, fun h => h1 (by simpa using h), fun h => h2 (by simpa using h)⟩
theorem pureK_by {d : Option Nat} {f : Nat} {args : List PV} {r : PV} (h : Pure P.prog f args r) (hk : pwpOps P os K (s.set d r.strip)) : pureK P os K d s f args := ⟨r, h, hk⟩
theorem callK_by {d : Option Nat} {f : Nat} {args : List PV} {R : PV → List PObj → Prop} (h : Sum P.prog f args s.H R) (hr : ∃ r H', R r H') (hk : ∀ r H', R r H' → pwpOps P os K ((St.mk s.t H').set d r.strip)) : callK P os K d s f args := ⟨R, h, hr, hk⟩
theorem yldK_by {d : Option Nat} {f : Nat} {args : List PV} {R : PV → List PObj → Prop} (h : P.Y f args s.H R) (hr : ∃ r H', R r H') (hk : ∀ r H', R r H' → pwpOps P os K ((St.mk s.t H').set d r.strip)) : yldK P os K d s f args := ⟨R, h, hr, hk⟩
end

/-! Operations -/
theorem v_pick {t : Bool} {p q : PV} : pickPV (bo t) p q = some (if t = true then p else q) := rfl
theorem v_nilckP {a b : Nat} : nilckPV (.ptr a b) = some (.ptr a b) := rfl
theorem v_nilckE {a : List PV} {b : Nat} : nilckPV (.ept a b) = some (.ept a b) := rfl
theorem v_nilckC {a : Nat} {b : List PV} : nilckPV (.clo a b) = some (.clo a b) := rfl
theorem v_paddP {a b n : Nat} : paddPV (.ptr a b) n = some (.ptr a (b + n)) := rfl
theorem v_paddE {a : List PV} {b n : Nat} : paddPV (.ept a b) n = some (.ept a (b + n)) := rfl
theorem v_pidxAP {a b n k : Nat} {j : Int} : pidxAPV (.ptr a b) (i j) n k = if 0 ≤ j ∧ j < n then some (.ptr a (b + j.toNat * k)) else none := rfl
theorem v_pidxAE {a : List PV} {b n k : Nat} {j : Int} : pidxAPV (.ept a b) (i j) n k = if 0 ≤ j ∧ j < n then some (.ept a (b + j.toNat * k)) else none := rfl
/-- The element at a place. -/
def elemAt (xs : List PV) (j : Int) : Option PV := if 0 ≤ j then xs[j.toNat]? else none
theorem elemAt_mid {α : Type} {f : α → PV} {d r : List α} {x : α} {l : List α} {j : Int} (h : l = d ++ x :: r) (hj : j = d.length) : elemAt (l.map f) j = some (f x) := by
  subst h; subst hj
  simp [elemAt]
theorem v_pidxS {o : Bool} {xs : List PV} {j : Int} {k : Nat} : pidxSPV (.slc o xs) (i j) k = (elemAt xs j).bind fun e => if e.cells.length = k then some (.ept e.cells 0) else none := by
  simp only [pidxSPV, i, elemAt]
  split <;> rfl
theorem v_fld {cs : List PV} {off k : Nat} {g : Bool} : fldPV (.agg cs) off k g = (cellsAt cs off k).bind fun l => mkAgg g (l.map PV.strip) := rfl
theorem v_idx {cs : List PV} {j : Int} {n k : Nat} {g : Bool} : idxPV (.agg cs) (i j) n k g = if 0 ≤ j ∧ j < n then (cellsAt cs (j.toNat * k) k).bind fun l => mkAgg g (l.map PV.strip) else none := rfl
/-- The byte at a place. -/
def charAt (l : List UInt8) (j : Int) : Option UInt8 := if 0 ≤ j then l[j.toNat]? else none
theorem charAt_mid {d r : List UInt8} {x : UInt8} {l : List UInt8} {j : Int} (h : l = d ++ x :: r) (hj : j = d.length) : charAt l j = some x := by
  subst h; subst hj
  simp [charAt]
theorem v_byteAt {l : List UInt8} {j : Int} : byteAtPV (tx l) (i j) = (charAt l j).map fun c => y c.toNat := by
  show (if 0 ≤ j then ((⟨l.toArray⟩ : ByteArray)[j.toNat]?).map fun c => PV.v (.int .u8 c.toNat) else none) = _
  unfold charAt
  split
  · congr 1
    simp only [getElem?_def]
    rfl
  · rfl
theorem v_len {o : Bool} {xs : List PV} : lenPV (.slc o xs) = some (i xs.length) := rfl
theorem v_slen {l : List UInt8} : slenPV (tx l) = some (i l.length) := by
  simp [slenPV, tx, i, ByteArray.size]
theorem v_eqb {n p q : Bool} : eqbPV n (bo p) (bo q) = some (bo (if n then !(p == q) else p == q)) := rfl
theorem v_not {p : Bool} : unPV .not (bo p) = some (bo !p) := rfl
theorem v_neg {a : Int} : unPV .neg (i a) = some (i (w64 (0 - a))) := rfl
theorem v_convuu {a : BitVec 64} : convPV .u64 (u a) = some (u a) := by
  simp [convPV, u, wrap_u64, ofInt_toNat]
theorem v_conviu {a : Int} : convPV .u64 (i a) = some (u (BitVec.ofInt 64 a)) := by
  simp [convPV, i, u, wrap_u64]
theorem v_convii {a : Int} : convPV .i64 (i a) = some (i (w64 a)) := rfl
theorem v_convui {a : BitVec 64} : convPV .i64 (u a) = some (i (w64 a.toNat)) := rfl
theorem v_strcp {l : List UInt8} : strcpPV (tx l) = some (tx l) := rfl
theorem v_ext {l : List PV} {k : Nat} : extPV (.tup l) k = (l[k]?).map PV.strip := rfl
theorem v_min {a b : Int} : mm2 false (i a) (i b) = some (i (min a b)) := by
  have : (if b < a then b else a) = min a b := by omega
  simp only [mm2, i]; simp only [Bool.false_eq_true, if_false, this]
theorem v_max {a b : Int} : mm2 true (i a) (i b) = some (i (max a b)) := by
  have : (if b > a then b else a) = max a b := by omega
  simp only [mm2, i]; simp only [if_true, this]

theorem beqI {a b : Int} : (a == b) = decide (a = b) := by rw [Bool.eq_iff_iff]; simp
theorem bneI {a b : Int} : (a != b) = decide (a ≠ b) := by rw [Bool.eq_iff_iff]; simp
theorem castI {a b : Nat} : ((a : Int) = (b : Int)) = (a = b) := by simp only [eq_iff_iff]; omega
theorem cast_lt {a b : Nat} : ((a : Int) < (b : Int)) = (a < b) := by simp only [eq_iff_iff]; omega
theorem cast_le {a b : Nat} : ((a : Int) ≤ (b : Int)) = (a ≤ b) := by simp only [eq_iff_iff]; omega
theorem v_add {a b : Int} : binPV .add (i a) (i b) = some (i (w64 (a + b))) := rfl
theorem v_sub {a b : Int} : binPV .sub (i a) (i b) = some (i (w64 (a - b))) := rfl
theorem v_mul {a b : Int} : binPV .mul (i a) (i b) = some (i (w64 (a * b))) := rfl
theorem v_quo {a b : Int} : binPV .quo (i a) (i b) = if b = 0 then none else some (i (w64 (a.tdiv b))) := by
  simp only [binPV, i, bopV, isShift, w64]; by_cases h : b = 0 <;> simp [h]
theorem v_rem {a b : Int} : binPV .rem (i a) (i b) = if b = 0 then none else some (i (a.tmod b)) := by
  simp only [binPV, i, bopV, isShift]; by_cases h : b = 0 <;> simp [h]
theorem v_eql {a b : Int} : binPV .eql (i a) (i b) = some (bo (decide (a = b))) := by
  simp only [binPV, i, bopV, isShift, bo, beqI, bneI, castI, cast_lt, cast_le, gt_iff_lt, ge_iff_le]; simp
theorem v_neq {a b : Int} : binPV .neq (i a) (i b) = some (bo (decide (a ≠ b))) := by
  simp only [binPV, i, bopV, isShift, bo, beqI, bneI, castI, cast_lt, cast_le, gt_iff_lt, ge_iff_le]; simp
theorem v_lss {a b : Int} : binPV .lss (i a) (i b) = some (bo (decide (a < b))) := rfl
theorem v_leq {a b : Int} : binPV .leq (i a) (i b) = some (bo (decide (a ≤ b))) := rfl
theorem v_gtr {a b : Int} : binPV .gtr (i a) (i b) = some (bo (decide (a > b))) := rfl
theorem v_geq {a b : Int} : binPV .geq (i a) (i b) = some (bo (decide (a ≥ b))) := rfl
theorem v_yeql {a b : Nat} : binPV .eql (y a) (y b) = some (bo (decide (a = b))) := by
  simp only [binPV, y, bopV, isShift, bo, beqI, bneI, castI, cast_lt, cast_le, gt_iff_lt, ge_iff_le]; simp
theorem v_yneq {a b : Nat} : binPV .neq (y a) (y b) = some (bo (decide (a ≠ b))) := by
  simp only [binPV, y, bopV, isShift, bo, bneI]; simp [castI]
theorem v_ylss {a b : Nat} : binPV .lss (y a) (y b) = some (bo (decide (a < b))) := by
  simp only [binPV, y, bopV, isShift, bo, beqI, bneI, castI, cast_lt, cast_le, gt_iff_lt, ge_iff_le]; simp
theorem v_yleq {a b : Nat} : binPV .leq (y a) (y b) = some (bo (decide (a ≤ b))) := by
  simp only [binPV, y, bopV, isShift, bo, beqI, bneI, castI, cast_lt, cast_le, gt_iff_lt, ge_iff_le]; simp
theorem v_ygtr {a b : Nat} : binPV .gtr (y a) (y b) = some (bo (decide (a > b))) := by
  simp only [binPV, y, bopV, isShift, bo, beqI, bneI, castI, cast_lt, cast_le, gt_iff_lt, ge_iff_le]; simp
theorem v_ygeq {a b : Nat} : binPV .geq (y a) (y b) = some (bo (decide (a ≥ b))) := by
  simp only [binPV, y, bopV, isShift, bo, beqI, bneI, castI, cast_lt, cast_le, gt_iff_lt, ge_iff_le]; simp

theorem v_uadd {a b : BitVec 64} : binPV .add (u a) (u b) = some (u (a + b)) := by
  simp only [binPV, u, bopV, isShift, wrap_u64]
  have : BitVec.ofInt 64 ((a.toNat : Int) + b.toNat) = a + b := by
    rw [BitVec.ofInt_add, ofInt_toNat, ofInt_toNat]
  simp [this]
theorem v_usub {a b : BitVec 64} : binPV .sub (u a) (u b) = some (u (a - b)) := by
  simp only [binPV, u, bopV, isShift, wrap_u64]
  have : BitVec.ofInt 64 ((a.toNat : Int) - b.toNat) = a - b := by
    rw [Int.sub_eq_add_neg, BitVec.ofInt_add, BitVec.ofInt_neg, ofInt_toNat, ofInt_toNat, BitVec.sub_eq_add_neg]
  simp [this]
theorem v_umul {a b : BitVec 64} : binPV .mul (u a) (u b) = some (u (a * b)) := by
  simp only [binPV, u, bopV, isShift, wrap_u64]
  have : BitVec.ofInt 64 ((a.toNat : Int) * b.toNat) = a * b := by
    rw [BitVec.ofInt_mul, ofInt_toNat, ofInt_toNat]
  simp [this]
theorem v_uand {a b : BitVec 64} : binPV .and (u a) (u b) = some (u (a &&& b)) := by
  simp only [binPV, u, bopV, isShift, wrap_u64, IntKind.bits, ofInt_toNat]; rfl
theorem v_uor {a b : BitVec 64} : binPV .or (u a) (u b) = some (u (a ||| b)) := by
  simp only [binPV, u, bopV, isShift, wrap_u64, IntKind.bits, ofInt_toNat]; rfl
theorem v_uxor {a b : BitVec 64} : binPV .xor (u a) (u b) = some (u (a ^^^ b)) := by
  simp only [binPV, u, bopV, isShift, wrap_u64, IntKind.bits, ofInt_toNat]; rfl
theorem v_ueql {a b : BitVec 64} : binPV .eql (u a) (u b) = some (bo (decide (a = b))) := by
  simp only [binPV, u, bopV, isShift, bo, beqI, bneI, castI, ← BitVec.toNat_eq]; simp
theorem v_uneq {a b : BitVec 64} : binPV .neq (u a) (u b) = some (bo (decide (a ≠ b))) := by
  simp only [binPV, u, bopV, isShift, bo, bneI]; simp [castI, ← BitVec.toNat_eq]
theorem v_ulss {a b : BitVec 64} : binPV .lss (u a) (u b) = some (bo (decide (a.toNat < b.toNat))) := by
  simp only [binPV, u, bopV, isShift, bo, beqI, bneI, castI, cast_lt, cast_le, gt_iff_lt, ge_iff_le]; simp
theorem v_uleq {a b : BitVec 64} : binPV .leq (u a) (u b) = some (bo (decide (a.toNat ≤ b.toNat))) := by
  simp only [binPV, u, bopV, isShift, bo, beqI, bneI, castI, cast_lt, cast_le, gt_iff_lt, ge_iff_le]; simp
theorem v_ugtr {a b : BitVec 64} : binPV .gtr (u a) (u b) = some (bo (decide (a.toNat > b.toNat))) := by
  simp only [binPV, u, bopV, isShift, bo, beqI, bneI, castI, cast_lt, cast_le, gt_iff_lt, ge_iff_le]; simp
theorem v_ugeq {a b : BitVec 64} : binPV .geq (u a) (u b) = some (bo (decide (a.toNat ≥ b.toNat))) := by
  simp only [binPV, u, bopV, isShift, bo, beqI, bneI, castI, cast_lt, cast_le, gt_iff_lt, ge_iff_le]; simp
theorem v_urem {a b : BitVec 64} : binPV .rem (u a) (u b) = if b = 0 then none else some (u (a % b)) := by
  simp only [binPV, u, bopV, isShift]
  by_cases h : b = 0
  · subst h; simp
  · have h2 : ¬ (b.toNat : Int) = 0 := by intro e; apply h; apply BitVec.eq_of_toNat_eq; simpa using e
    rw [if_neg h, if_neg h2]
    simp only [Option.map_some, BitVec.toNat_umod]
    rfl
theorem v_unot {a : BitVec 64} : unPV .xor (u a) = some (u (~~~ a)) := by
  have e : BitVec.ofInt 64 (if false = true then -1 else IntKind.u64.max) = BitVec.allOnes 64 := by decide
  have e2 : unPV .xor (u a) = some (.v (.int .u64 (IntKind.u64.wrap (((BitVec.ofInt 64 (if false = true then -1 else IntKind.u64.max) ^^^ BitVec.ofInt 64 (a.toNat : Int) : BitVec 64).toNat : Nat) : Int)))) := rfl
  rw [e2, wrap_u64, ofInt_toNat, e, ofInt_toNat, BitVec.allOnes_xor]
  rfl
theorem v_ushl {a : BitVec 64} {b : Int} (h : 0 ≤ b) : binPV .shl (u a) (i b) = some (u (a <<< b.toNat)) := by
  have hb : ¬ b < 0 := by omega
  simp only [binPV, u, i, shiftV, isShift, hb, if_true, if_false, wrap_u64, Option.map_some, IntKind.bits]
  have : BitVec.ofInt 64 ((a.toNat : Int) * 2 ^ min b.toNat 64) = a <<< b.toNat := by
    apply BitVec.eq_of_toNat_eq
    have e0 : ((a.toNat : Int) * 2 ^ min b.toNat 64) = ((a.toNat * 2 ^ min b.toNat 64 : Nat) : Int) := by rw [Int.natCast_mul, Int.natCast_pow]; rfl
    rw [e0, BitVec.toNat_ofInt, BitVec.toNat_shiftLeft, Nat.shiftLeft_eq, ← Int.natCast_emod, Int.toNat_natCast]
    by_cases hc : b.toNat ≤ 64
    · rw [Nat.min_eq_left hc]
    · rw [Nat.min_eq_right (by omega)]
      have h2 : 2 ^ 64 ∣ a.toNat * 2 ^ b.toNat := Nat.dvd_trans (Nat.pow_dvd_pow 2 (by omega)) (Nat.dvd_mul_left _ _)
      rw [Nat.mod_eq_zero_of_dvd h2, Nat.mod_eq_zero_of_dvd (Nat.dvd_mul_left _ _)]
  rw [this]
theorem v_ushr {a : BitVec 64} {b : Int} (h : 0 ≤ b) : binPV .shr (u a) (i b) = some (u (a >>> b.toNat)) := by
  have hb : ¬ b < 0 := by omega
  simp only [binPV, u, i, shiftV, isShift, hb, if_true, if_false, Option.map_some, IntKind.bits]
  have : (a.toNat : Int).fdiv (2 ^ min b.toNat 64) = ((a >>> b.toNat).toNat : Int) := by
    rw [BitVec.toNat_ushiftRight, Nat.shiftRight_eq_div_pow]
    have e : ((2 : Int) ^ min b.toNat 64) = ((2 ^ min b.toNat 64 : Nat) : Int) := by rw [Int.natCast_pow]; rfl
    rw [e, Int.fdiv_eq_ediv_of_nonneg _ (Int.natCast_nonneg _), ← Int.natCast_ediv]
    congr 1
    by_cases hc : b.toNat ≤ 64
    · rw [Nat.min_eq_left hc]
    · rw [Nat.min_eq_right (by omega)]
      have := a.isLt
      rw [Nat.div_eq_of_lt this, Nat.div_eq_of_lt (Nat.lt_of_lt_of_le this (Nat.pow_le_pow_right (by omega) (by omega)))]
  rw [this]
theorem v_ushlu {a b : BitVec 64} : binPV .shl (u a) (u b) = some (u (a <<< b.toNat)) := by
  have := v_ushl (a := a) (b := (b.toNat : Int)) (by omega)
  simpa [binPV, u, i, isShift] using this
theorem v_ushru {a b : BitVec 64} : binPV .shr (u a) (u b) = some (u (a >>> b.toNat)) := by
  have := v_ushr (a := a) (b := (b.toNat : Int)) (by omega)
  simpa [binPV, u, i, isShift] using this

/-! Slices -/
theorem b_none {y d : Nat} : boundP y d none = some d := rfl
theorem b_some {y d : Nat} {j : Int} : boundP y d (some (i j)) = if 0 ≤ j ∧ j ≤ y then some j.toNat else none := rfl
theorem v_slice2 {o : Bool} {xs : List PV} {lo hi : Option PV} {k : Nat} : slicePV (.slc o xs) lo hi none k = (boundP xs.length xs.length hi).bind fun h => (boundP h 0 lo).bind fun l => if l = 0 ∨ (xs.all fun p => p.cells.length == k) = true then some (.slc false ((xs.take h).drop l)) else none := rfl
theorem v_loadTP {d : Option Nat} {s : St} {id off : Nat} : loadTSt d s (.ptr id off) = (objCells s.H id).bind fun cs => (cs[off]?).map fun x => (St.mk s.t (s.H.set id (.cells (cs.set off x.strip)))).set d x := rfl
theorem v_loadTE {d : Option Nat} {s : St} {cs : List PV} {off : Nat} : loadTSt d s (.ept cs off) = (cs[off]?).map fun x => s.set d x.strip := rfl
theorem v_storeTS {d : Option Nat} {s : St} {id off n : Nat} {o : Bool} {xs : List PV} : storeTSt d s (.ptr id off) (.slc o xs) n = (objCells s.H id).bind fun cs => if off < cs.length then
        some ((St.mk (upd s.t n (PV.slc o xs).strip) (s.H.set id (.cells (cs.set off (.slc o xs))))).set d .junk) else none := rfl
theorem v_app {xs ys : List PV} {o : Bool} {k bytes : Nat} : appPV (.slc true xs) (.slc o ys) k bytes = if (xs.length + ys.length) * bytes ≤ 140737488355328 ∧ xs.length + ys.length ≤ 9223372036854775807 ∧ (ys.all fun p => p.cells.length == k && storable p.cells) = true ∧ (xs.all fun p => p.cells.length == k) = true then
        some (.slc true (xs ++ ys)) else none := rfl
theorem v_bsl {k : Nat} {l : List PV} : bslPV k l = if (l.all fun p => p.cells.length == k && storable p.cells) = true then some (.slc true (l.map stripAll)) else none := rfl
theorem a_agg {l : List PV} : stripAll (.agg l) = .agg (l.map PV.strip) := rfl
theorem a_i {x : Int} : stripAll (i x) = i x := rfl
theorem a_u {x : BitVec 64} : stripAll (u x) = u x := rfl
theorem a_y {x : Nat} : stripAll (y x) = y x := rfl
theorem a_b {x : Bool} : stripAll (bo x) = bo x := rfl
theorem a_x {x : List UInt8} : stripAll (tx x) = tx x := rfl
theorem a_ptr {a b : Nat} : stripAll (.ptr a b) = .ptr a b := rfl
theorem v_sslice {l : List UInt8} {lo hi : Option PV} : sslicePV (tx l) lo hi = (boundP l.length l.length hi).bind fun h => (boundP h 0 lo).map fun k => tx ((l.take h).drop k) := by
  simp only [sslicePV, tx]
  have e : (⟨l.toArray⟩ : ByteArray).size = l.length := by simp [ByteArray.size]
  rw [e]
  congr 1
  funext h
  congr 1
  funext k
  congr 2
  apply ByteArray.ext
  simp [ByteArray.extract, ByteArray.copySlice, List.extract_eq_take_drop]
  rw [List.drop_take]

/-! Texts -/
theorem tx_toList (l : List UInt8) : (⟨l.toArray⟩ : ByteArray).toList = l := by
  rw [ByteArray.toList_eq]
theorem v_xeql {a b : List UInt8} : binPV .eql (tx a) (tx b) = some (bo (decide (a = b))) := by
  simp only [binPV, tx, strV, bo, tx_toList]
  have : (a == b) = decide (a = b) := by rw [Bool.eq_iff_iff]; simp
  rw [this]; rfl
theorem v_xneq {a b : List UInt8} : binPV .neq (tx a) (tx b) = some (bo (decide (a ≠ b))) := by
  simp only [binPV, tx, strV, bo, tx_toList]
  have : (!(a == b)) = decide (a ≠ b) := by rw [Bool.eq_iff_iff]; simp
  rw [this]; rfl
theorem bytesLess_lt : ∀ (x y : List UInt8), Op.bytesLess x y = decide (x < y)
  | [], [] => by simp [Op.bytesLess]
  | _ :: _, [] => by simp [Op.bytesLess]
  | [], _ :: _ => by simp [Op.bytesLess]
  | a :: x, b :: y => by
    rw [Op.bytesLess, bytesLess_lt x y]
    simp only [List.cons_lt_cons_iff]
    by_cases h : a < b
    · simp [h]
    · by_cases h' : a = b
      · subst h'; simp [h]
      · simp [h, h']
theorem v_xlss {a b : List UInt8} : binPV .lss (tx a) (tx b) = some (bo (decide (a < b))) := by
  simp only [binPV, tx, strV, bo, tx_toList, bytesLess_lt]; rfl
theorem v_xadd {a b : List UInt8} (h : a.length + b.length ≤ 9223372036854775807) : binPV .add (tx a) (tx b) = some (tx (a ++ b)) := by
  have e : ¬ (((⟨a.toArray⟩ : ByteArray).size + (⟨b.toArray⟩ : ByteArray).size : Nat) : Int) > IntKind.i64.max := by
    have : IntKind.i64.max = 9223372036854775807 := by decide
    rw [this]
    simp [ByteArray.size]
    omega
  simp only [binPV, tx, strV, isShift, if_neg e, Option.map_some]
  congr 3

/-! What is looked at through a way to what no longer turns; new variables -/
theorem v_loadE {cs : List PV} {off k : Nat} {g : Bool} : loadEPV (.ept cs off) k g = (cellsAt cs off k).bind fun l => mkAgg g (l.map PV.strip) := rfl
theorem v_boxF {x : PV} : boxFPV x = if storable x.cells then some (.ept (x.cells.map PV.strip) 0) else none := rfl
theorem v_storeF {d : Option Nat} {s : St} {p n k : Nat} {x : PV} : storeFSt d s p (.fb n) x k = if n = k ∧ x.cells.length = k ∧ storable x.cells = true ∧ d ≠ some p then some ((St.mk (upd s.t p (.ept (x.cells.map PV.strip) 0)) s.H).set d .junk) else none := rfl
theorem v_tobytes {l : List UInt8} : tobytesPV (tx l) = some (.slc false (l.map fun c => y c.toNat)) := by
  simp only [tobytesPV, tx, tx_toList, y]
theorem v_mkslice {d : Option Nat} {s : St} {z : List PV} {b : Nat} {n m : Int} : mksliceSt d s z b (i n) (i m) = if n = m ∧ 0 ≤ n ∧ n ≤ 9223372036854775807 ∧ n * b ≤ 140737488355328 then
        some ((St.mk s.t (s.H ++ [.cells (List.replicate n.toNat z).flatten])).set d (.hsl s.H.length 0 n.toNat n.toNat)) else none := rfl
theorem v_lenH {a b n c : Nat} : lenPV (.hsl a b n c) = some (i n) := rfl
theorem v_pidxH {a b n c : Nat} {j : Int} {k : Nat} : pidxSPV (.hsl a b n c) (i j) k = if 0 ≤ j ∧ j < n then some (.ptr a (b + j.toNat * k)) else none := rfl

/-! Equal? -/
theorem v_eqv {n : Bool} {ks : List Nat} {xs ys : List PV} : eqvPV n ks (.agg xs) (.agg ys) = (eqCells ks xs ys).map fun b => bo (if n then !b else b) := rfl
theorem e_nil : eqCells [] [] [] = some true := rfl
theorem e_i {ks : List Nat} {xs ys : List PV} {a b : Int} : eqCells (1 :: ks) (i a :: xs) (i b :: ys) = (eqCells ks xs ys).map fun q => decide (a = b) && q := by
  simp only [eqCells, i, sameV, if_true, Option.bind_some, beqI]
theorem e_u {ks : List Nat} {xs ys : List PV} {a b : BitVec 64} : eqCells (1 :: ks) (u a :: xs) (u b :: ys) = (eqCells ks xs ys).map fun q => decide (a = b) && q := by
  have : decide ((a.toNat : Int) = (b.toNat : Int)) = decide (a = b) := by simp only [castI, ← BitVec.toNat_eq]
  simp only [eqCells, u, sameV, if_true, Option.bind_some, beqI, this]
theorem e_b {ks : List Nat} {xs ys : List PV} {a b : Bool} : eqCells (0 :: ks) (bo a :: xs) (bo b :: ys) = (eqCells ks xs ys).map fun q => (a == b) && q := by
  simp only [eqCells, bo, sameV, Option.bind_some]
theorem e_x {ks : List Nat} {xs ys : List PV} {a b : List UInt8} : eqCells (2 :: ks) (tx a :: xs) (tx b :: ys) = (eqCells ks xs ys).map fun q => decide (a = b) && q := by
  have : ((⟨a.toArray⟩ : ByteArray) == ⟨b.toArray⟩) = decide (a = b) := by
    rw [Bool.eq_iff_iff, MapKept.bytes_beq]
    simp
  simp only [eqCells, tx, sameV, Option.bind_some, this]
theorem q_ptr0 {a b : Nat} : eqpPV 0 (.ptr a b) (.v (.pointer none)) = some false := rfl
theorem q_ept0 {a : List PV} {b : Nat} : eqpPV 0 (.ept a b) (.v (.pointer none)) = some false := rfl
theorem q_nil0 : eqpPV 0 (.v (.pointer none)) (.v (.pointer none)) = some true := rfl
theorem q_map0 {a : Nat} : eqpPV 1 (.map a) (.v (.map none)) = some false := rfl
theorem q_mnil : eqpPV 1 (.v (.map none)) (.v (.map none)) = some true := rfl
theorem q_clo0 {a : Nat} {l : List PV} : eqpPV 2 (.clo a l) (.v .nilFunc) = some false := rfl
theorem q_cnil : eqpPV 2 (.v .nilFunc) (.v .nilFunc) = some true := rfl
theorem q_bo {b : Bool} : PV.v (.bool b) = bo b := rfl

/-! Objects behind others -/
theorem h_len {H : List PObj} {L : List PObj} {k : Nat} : objCells (H ++ L) (H.length + k) = objCells L k := by
  simp [objCells, List.getElem?_append_right]
theorem h_len0 {H : List PObj} {L : List PObj} : objCells (H ++ L) H.length = objCells L 0 := by
  simp [objCells, List.getElem?_append_right]
theorem h_lt {H : List PObj} {L : List PObj} {k : Nat} (h : k < H.length) : objCells (H ++ L) k = objCells H k := by
  simp [objCells, List.getElem?_append_left h]
theorem h_set {H : List PObj} {L : List PObj} {k : Nat} {o : PObj} : (H ++ L).set (H.length + k) o = H ++ L.set k o := by
  rw [List.set_append_right _ _ (by omega)]; simp
theorem h_set0 {H : List PObj} {L : List PObj} {o : PObj} : (H ++ L).set H.length o = H ++ L.set 0 o := by
  rw [List.set_append_right _ _ (by omega)]; simp
theorem h_setlt {H : List PObj} {L : List PObj} {k : Nat} {o : PObj} (h : k < H.length) : (H ++ L).set k o = H.set k o ++ L := by
  rw [List.set_append_left _ _ h]
end Go.Pi
/- The rules, put together. Made by mkrules.py. -/
namespace Go.Pi
set_option linter.defProp false
set_option maxRecDepth 100000
theorem x_upd {f : Nat → PV} {a c : Nat} {b : PV} : upd f a b c = if c = a then b else f c := rfl
theorem x_cellsAt {cs : List PV} {o k : Nat} : cellsAt cs o k = if o + k ≤ cs.length then some ((cs.drop o).take k) else none := rfl
theorem x_setAt {cs l : List PV} {o : Nat} : setAt cs o l = if o + l.length ≤ cs.length then some (cs.take o ++ l ++ cs.drop (o + l.length)) else none := rfl
theorem x_box {x : PV} : boxPV x = if storable x.cells = true then some (.cells (x.cells.map PV.strip)) else none := rfl
theorem x_build1 {cs : List PV} {o k : Nat} {x : PV} : build1 cs o k x = if (x.cells.map PV.strip).length = k ∧ storable (x.cells.map PV.strip) = true then setAt cs o (x.cells.map PV.strip) else none := rfl
theorem x_pack1 {p : PV} : pack [p] = p := rfl
theorem x_pack0 : pack [] = .tup [] := rfl
theorem x_pack2 {p q : PV} {l : List PV} : pack (p :: q :: l) = .tup (p :: q :: l) := rfl
theorem x_condD {P : Cx} {pures : List Nat} {n : Nat} {a b : PCode} {Q : Ex → St → Prop} {s : St} {c : Prop} [Decidable c] : condK P pures n a b Q s (bo (decide c)) = ((c → pwp P pures n a Q s) ∧ (¬ c → pwp P pures n b Q s)) := by simp [condK, bo]
theorem x_condN {P : Cx} {pures : List Nat} {n : Nat} {a b : PCode} {Q : Ex → St → Prop} {s : St} {c : Bool} : condK P pures n a b Q s (bo (!c)) = condK P pures n b a Q s (bo c) := by cases c <;> simp [condK, bo]
theorem x_guardN {P : Cx} {o : POp} {os : List POp} {K : St → Prop} {s : St} {g c : Bool} : guardK P o os K s g (bo (!c)) = guardK P o os K s (!g) (bo c) := by cases c <;> cases g <;> simp [guardK, gdOf, bo]
theorem f_ept {l : List PV} {o : Nat} : RefFree (.ept l o) = ∀ x ∈ l, RefFree x := by simp only [eq_iff_iff]; exact ⟨fun h => by cases h; assumption, .ept⟩
theorem f_clo {l : List PV} {o : Nat} : RefFree (.clo o l) = ∀ x ∈ l, RefFree x := by simp only [eq_iff_iff]; exact ⟨fun h => by cases h; assumption, .clo⟩
theorem f_agg {l : List PV} : RefFree (.agg l) = ∀ x ∈ l, RefFree x := by simp only [eq_iff_iff]; exact ⟨fun h => by cases h; assumption, .agg⟩
theorem f_slc {o : Bool} {l : List PV} : RefFree (.slc o l) = ∀ x ∈ l, RefFree x := by simp only [eq_iff_iff]; exact ⟨fun h => by cases h; assumption, .slc⟩
theorem f_tup {l : List PV} : RefFree (.tup l) = ∀ x ∈ l, RefFree x := by simp only [eq_iff_iff]; exact ⟨fun h => by cases h; assumption, .tup⟩
theorem f_v {x : Value} : RefFree (.v x) = True := by simp; exact .v _
theorem f_i {x : Int} : RefFree (i x) = True := f_v
theorem f_u {x : BitVec 64} : RefFree (u x) = True := f_v
theorem f_y {x : Nat} : RefFree (y x) = True := f_v
theorem f_b {x : Bool} : RefFree (bo x) = True := f_v
theorem f_x {x : List UInt8} : RefFree (tx x) = True := f_v
def rules := And.intro @r_skip <| And.intro @r_reg <| And.intro @r_seq <| And.intro @r_cond <| And.intro @r_block <| And.intro @r_exit <| And.intro @r_ret <| And.intro @r_seqN <| And.intro @r_seqR <| And.intro @r_seqE <| And.intro @r_blockN <| And.intro @r_blockR <| And.intro @r_blockE <| And.intro @r_condT <| And.intro @r_condF <| And.intro @r_guardTT <| And.intro @r_guardFF <| And.intro @r_guardTF <| And.intro @r_guardFT <| And.intro @r_guardS <| And.intro @r_valS <| And.intro @r_stS <| And.intro @r_boxS <| And.intro @r_heapS <| And.intro @r_endR <| And.intro @r_endN <| And.intro @r_res0 <| And.intro @r_resT <| And.intro @r_resC <| And.intro @r_nil <| And.intro @r_guard <| And.intro @r_copy <| And.intro @r_pick <| And.intro @r_load <| And.intro @r_nilck <| And.intro @r_padd <| And.intro @r_pidxA <| And.intro @r_pidxS <| And.intro @r_fld <| And.intro @r_idx <| And.intro @r_byteAt <| And.intro @r_build <| And.intro @r_build0 <| And.intro @r_buildS <| And.intro @r_slice <| And.intro @r_sslice <| And.intro @r_len <| And.intro @r_slen <| And.intro @r_bin <| And.intro @r_eqv <| And.intro @r_eqb <| And.intro @r_eqp <| And.intro @r_un <| And.intro @r_conv <| And.intro @r_strcp <| And.intro @r_ext <| And.intro @r_mkclo <| And.intro @r_mm2 <| And.intro @r_take <| And.intro @r_alloc <| And.intro @r_box <| And.intro @r_loadT <| And.intro @r_store <| And.intro @r_storeT <| And.intro @r_bslice <| And.intro @r_append <| And.intro @r_pcall <| And.intro @r_call <| And.intro @r_callv <| And.intro @r_clo <| And.intro @r_yld <| And.intro @r_mnext <| And.intro @r_loadE <| And.intro @r_boxF <| And.intro @r_allocF <| And.intro @r_nilsl <| And.intro @r_tobytes <| And.intro @r_storeF <| And.intro @r_mkmap <| And.intro @r_mlen <| And.intro @r_lookup <| And.intro @r_mcur <| And.intro @r_mentry <| And.intro @r_mstore <| And.intro @r_mupd <| And.intro @r_mrange <| And.intro @r_mkslice <| And.intro @r_arg_t <| And.intro @r_arg_c <| And.intro @r_set <| And.intro @r_setN <| And.intro @r_t <| And.intro @r_skipped <| And.intro @r_H <| And.intro @start0 <| And.intro @start1 <| And.intro @start2 <| And.intro @start3 <| And.intro @start4 <| And.intro @start5 <| And.intro @s_v <| And.intro @s_ptr <| And.intro @s_slcF <| And.intro @s_slcN <| And.intro @s_slcC <| And.intro @s_ept <| And.intro @s_clo <| And.intro @s_agg <| And.intro @s_tup <| And.intro @s_map <| And.intro @s_junk <| And.intro @s_ifc <| And.intro @s_fb <| And.intro @s_yld <| And.intro @s_hsl <| And.intro @l_ptr <| And.intro @l_ept <| And.intro @o_zero <| And.intro @o_succ <| And.intro @m_t <| And.intro @m_f <| And.intro @st_ptr <| And.intro @c_agg <| And.intro @c_v <| And.intro @c_ptr <| And.intro @c_slc <| And.intro @c_map <| And.intro @c_clo <| And.intro @sb_nil <| And.intro @sb_cons <| And.intro @one_v <| And.intro @one_ptr <| And.intro @one_slc <| And.intro @one_map <| And.intro @one_clo <| And.intro @one_ept <| And.intro @bindS_some <| And.intro @v_si <| And.intro @v_su <| And.intro @v_sy <| And.intro @v_sb <| And.intro @v_sx <| And.intro @v_ci <| And.intro @v_cu <| And.intro @v_cy <| And.intro @v_cb <| And.intro @v_cx <| And.intro @v_oi <| And.intro @v_ou <| And.intro @v_oy <| And.intro @v_ob <| And.intro @v_ox <| And.intro @v_condT <| And.intro @v_condF <| And.intro @v_guardTT <| And.intro @v_guardFF <| And.intro @v_guardTF <| And.intro @v_guardFT <| And.intro @v_pick <| And.intro @v_nilckP <| And.intro @v_nilckE <| And.intro @v_nilckC <| And.intro @v_paddP <| And.intro @v_paddE <| And.intro @v_pidxAP <| And.intro @v_pidxAE <| And.intro @v_pidxS <| And.intro @v_fld <| And.intro @v_idx <| And.intro @v_byteAt <| And.intro @v_len <| And.intro @v_slen <| And.intro @v_eqb <| And.intro @v_not <| And.intro @v_neg <| And.intro @v_convuu <| And.intro @v_conviu <| And.intro @v_convii <| And.intro @v_convui <| And.intro @v_strcp <| And.intro @v_ext <| And.intro @v_min <| And.intro @v_max <| And.intro @v_add <| And.intro @v_sub <| And.intro @v_mul <| And.intro @v_quo <| And.intro @v_rem <| And.intro @v_eql <| And.intro @v_neq <| And.intro @v_lss <| And.intro @v_leq <| And.intro @v_gtr <| And.intro @v_geq <| And.intro @v_yeql <| And.intro @v_yneq <| And.intro @v_ylss <| And.intro @v_yleq <| And.intro @v_ygtr <| And.intro @v_ygeq <| And.intro @v_uadd <| And.intro @v_usub <| And.intro @v_umul <| And.intro @v_uand <| And.intro @v_uor <| And.intro @v_uxor <| And.intro @v_ueql <| And.intro @v_uneq <| And.intro @v_ulss <| And.intro @v_uleq <| And.intro @v_ugtr <| And.intro @v_ugeq <| And.intro @v_urem <| And.intro @v_unot <| And.intro @v_ushlu <| And.intro @v_ushru <| And.intro @b_none <| And.intro @b_some <| And.intro @v_slice2 <| And.intro @v_loadTP <| And.intro @v_loadTE <| And.intro @v_storeTS <| And.intro @v_app <| And.intro @v_bsl <| And.intro @a_agg <| And.intro @a_i <| And.intro @a_u <| And.intro @a_y <| And.intro @a_b <| And.intro @a_x <| And.intro @a_ptr <| And.intro @v_sslice <| And.intro @v_xeql <| And.intro @v_xneq <| And.intro @v_xlss <| And.intro @v_loadE <| And.intro @v_boxF <| And.intro @v_storeF <| And.intro @v_tobytes <| And.intro @v_mkslice <| And.intro @v_lenH <| And.intro @v_pidxH <| And.intro @v_eqv <| And.intro @e_nil <| And.intro @e_i <| And.intro @e_u <| And.intro @e_b <| And.intro @e_x <| And.intro @q_ptr0 <| And.intro @q_ept0 <| And.intro @q_nil0 <| And.intro @q_map0 <| And.intro @q_mnil <| And.intro @q_clo0 <| And.intro @q_cnil <| And.intro @h_len <| And.intro @h_len0 <| And.intro @h_set <| And.intro @h_set0 <| And.intro @x_upd <| And.intro @x_cellsAt <| And.intro @x_setAt <| And.intro @x_box <| And.intro @x_build1 <| And.intro @x_pack1 <| And.intro @x_pack0 <| And.intro @x_pack2 <| And.intro @x_condN @x_guardN
def frees := And.intro @f_ept <| And.intro @f_clo <| And.intro @f_agg <| And.intro @f_slc <| And.intro @f_tup <| And.intro @f_v <| And.intro @f_i <| And.intro @f_u <| And.intro @f_y <| And.intro @f_b @f_x
end Go.Pi
namespace Go.Pi
theorem flatten_at {k : Nat} : ∀ {ls : List (List PV)}, (∀ l ∈ ls, l.length = k) → ∀ (j c : Nat), c < k → ls.flatten[j * k + c]? = (ls[j]?).bind fun l => l[c]?
  | [], _, j, c, _ => by simp
  | l :: ls, h, 0, c, hc => by
    have : l.length = k := h l (by simp)
    simp only [Nat.zero_mul, Nat.zero_add, List.flatten_cons]
    rw [List.getElem?_append_left (by omega)]
    simp
  | l :: ls, h, j + 1, c, hc => by
    have e : l.length = k := h l (by simp)
    have e2 : (j + 1) * k + c - l.length = j * k + c := by rw [e, Nat.add_mul]; omega
    simp only [List.flatten_cons]
    rw [List.getElem?_append_right (by rw [e, Nat.add_mul]; omega), e2, flatten_at (fun l hl => h l (by simp [hl])) j c hc]
    simp
/-- A new array that is handed back is, from then on, only looked at. -/
theorem Pure.freeze {P : Program} {f : Nat} {args : List PV} {xs : List PV} {k : Nat} (hne : xs ≠ []) (hk : ∀ x ∈ xs, x.cells.length = k) (hf : ∀ x ∈ xs, RefFree x) (ha : ∀ x ∈ args, RefFree x)
    (h : Sum P f args [] fun r H' => ∃ id cap, r = .hsl id 0 xs.length cap ∧ xs.length ≤ cap ∧ H'[id]? = some (.cells (xs.map PV.cells).flatten)) : Pure P f args (.slc false xs) := by
  intro w bl π cargs hnd hlt hpr hargs
  have hnl : ∀ b, ¬ Live [] [] b := by rintro b ⟨id, o, h1, _⟩; simp at h1
  refine (h w [] π (fun _ => False) cargs { len := rfl, nd := by simp, lt := by simp, ob := ⟨fun _ _ => none, by simp, by simp, by simp, by simp, fun id o b ho => by simp at ho⟩, pr := fun b o hp => ⟨hnl b, hpr b o hp⟩ } ⟨hargs.1, fun i z u hz hu => ?_⟩).mono ?_
  · exact (hargs.2 i z u hz hu).anyBlocks (ha z (List.mem_of_getElem? hz)) []
  · rintro v w' ⟨r', H', bl', π', O', ⟨id, cap, rfl, hcap, hid⟩, hv, hH, hO, hF⟩
    cases hv with
    | hsl hb =>
    rename_i b
    have hbl : w.heap.size ≤ b := hF.new id b hb (by simp)
    have hbs : b < w'.heap.size := hH.lt b (List.mem_of_getElem? hb)
    obtain ⟨om, _, _, _, _, hob⟩ := hH.ob
    obtain ⟨cs, t, g1, g2, g3⟩ := hob id _ b hid hb
    have hls : ∀ l ∈ xs.map PV.cells, l.length = k := by
      intro l hl
      obtain ⟨x, hx, rfl⟩ := List.mem_map.1 hl
      exact hk x hx
    have at_ : ∀ j c, j < xs.length → c < k → ∃ x z u, xs[j]? = some x ∧ x.cells[c]? = some z ∧ cs[j * k + c]? = some u ∧ VRel w' bl' π' z u := by
      intro j c hj hc
      have e1 : xs[j]? = some xs[j] := List.getElem?_eq_getElem hj
      have e2 : xs[j].cells.length = k := hk _ (List.getElem_mem hj)
      have e3 : xs[j].cells[c]? = some (xs[j].cells[c]'(by omega)) := List.getElem?_eq_getElem (by omega)
      have e4 : (xs.map PV.cells).flatten[j * k + c]? = some (xs[j].cells[c]'(by omega)) := by
        rw [flatten_at hls j c hc, List.getElem?_map, e1]
        exact e3
      have e5 : j * k + c < cs.size := by rw [g2]; exact (List.getElem?_eq_some_iff.1 e4).1
      exact ⟨_, _, _, e1, e3, Array.getElem?_eq_getElem e5, (g3 _ _ _ e4 (Array.getElem?_eq_getElem e5)).1⟩
    refine ⟨fun b' o => π' b' o ∨ b' = b, ?_, ⟨hF.os, hF.tape, hF.output, hF.size, fun k hk => hF.block k hk (hnl k) (by simp)⟩, fun b o h => .inl (hF.sub b o h), ?_⟩
    · refine .slc (k := k) (fun j c => (cs[j * k + c]?).getD undef) hne hcap hk (fun j c hj hc => ⟨.inr rfl, ?_⟩) (fun j c x z hx hz => ?_)
      · obtain ⟨x, z, u, a1, a2, a3, a4⟩ := at_ j c hj hc
        rw [cell_at g1, Nat.zero_add, a3]; rfl
      · have hj : j < xs.length := (List.getElem?_eq_some_iff.1 hx).1
        have hc : c < k := by rw [← hk x (List.mem_of_getElem? hx)]; exact (List.getElem?_eq_some_iff.1 hz).1
        obtain ⟨x', z', u, a1, a2, a3, a4⟩ := at_ j c hj hc
        rw [hx] at a1; cases a1
        rw [hz] at a2; cases a2
        rw [a3]
        exact (a4.anyBlocks ((hf x (List.mem_of_getElem? hx)).cells z (List.mem_of_getElem? hz)) bl).mono (fun _ _ h => h) (fun _ _ h => .inl h) (fun _ _ _ => rfl)
    · rintro b' o (hp | rfl)
      · exact ⟨by
          rcases hF.fresh b' o hp with h | h | h
          · exact .inl h
          · exact .inr h
          · exact h.elim, (hH.pr b' o hp).2⟩
      · exact ⟨.inr hbl, hbs⟩
theorem flatten_len' {k : Nat} : ∀ {ls : List (List PV)}, (∀ l ∈ ls, l.length = k) → ls.flatten.length = ls.length * k
  | [], _ => by simp
  | l :: ls, h => by
    have e : l.length = k := h l (by simp)
    rw [List.flatten_cons, List.length_append, flatten_len' (fun l hl => h l (by simp [hl])), e, List.length_cons, Nat.add_mul]; omega
theorem setAt_flatten {k : Nat} {ls : List (List PV)} (h : ∀ l ∈ ls, l.length = k) {j : Nat} (hj : j < ls.length) {l : List PV} (hl : l.length = k) : setAt ls.flatten (j * k) l = some (ls.set j l).flatten := by
  have e1 : (ls.take j).flatten.length = j * k := by
    rw [flatten_len' (fun l hl => h l (List.mem_of_mem_take hl)), List.length_take, Nat.min_eq_left (by omega)]
  have e2 : ls = ls.take j ++ ls[j] :: ls.drop (j + 1) := by rw [List.getElem_cons_drop, List.take_append_drop]
  have e3 : ls[j].length = k := h _ (List.getElem_mem hj)
  have e4 : ls.flatten = (ls.take j).flatten ++ (ls[j] ++ (ls.drop (j + 1)).flatten) := by
    have := congrArg List.flatten e2
    rw [List.flatten_append, List.flatten_cons] at this
    exact this
  have e5 : (ls.set j l).flatten = (ls.take j).flatten ++ (l ++ (ls.drop (j + 1)).flatten) := by
    rw [List.set_eq_take_append_cons_drop, if_pos hj]; simp
  have e6 : j * k + l.length ≤ ls.flatten.length := by
    rw [flatten_len' h, hl]
    have : (j + 1) * k ≤ ls.length * k := Nat.mul_le_mul_right k hj
    rw [Nat.add_mul] at this; omega
  unfold setAt
  rw [if_pos e6, e4, e5]
  congr 1
  rw [List.take_left' e1]
  have e7 : ((ls.take j).flatten ++ (ls[j] ++ (ls.drop (j + 1)).flatten)).drop (j * k + l.length) = (ls.drop (j + 1)).flatten := by
    rw [← List.append_assoc, List.drop_left' (by rw [List.length_append, e1, e3, hl])]
  rw [e7, List.append_assoc]
end Go.Pi
