import Derived.Test.YtcmkgbboldchbaaGreatDoorB4
import Derived.KernelRfl
set_option linter.unusedSimpArgs false
set_option linter.unusedVariables false
namespace Go.Pi.M
open Go Go.Pi Go.Proofs Go.Sort
set_option maxRecDepth 10000

/-- A model of the program, in memory. -/
structure MAt (H : List PObj) (a mid : Nat) (s : Space) (n : BitVec 64) (es : List (Pfx × BitVec 64 × Nat)) (clock : Nat) : Prop where
  obj : objCells H a = some (modelCells s n mid)
  map : H[mid]? = some (.map clock (ents (entW es)))
  nod : (es.map fun e => e.2.2).Nodup
  births : ∀ e ∈ es, e.2.2 < clock
  oks : ∀ e ∈ es, e.1.ok
  len : es.length ≤ 1000

theorem objCells_eq {H H' : List PObj} {a : Nat} (h : H'[a]? = H[a]?) : objCells H' a = objCells H a := by unfold objCells; rw [h]
theorem MAt.move {H H' : List PObj} {a mid : Nat} {s : Space} {n : BitVec 64} {es : List (Pfx × BitVec 64 × Nat)} {clock : Nat} (h : MAt H a mid s n es clock) (h1 : H'[a]? = H[a]?) (h2 : H'[mid]? = H[mid]?) : MAt H' a mid s n es clock :=
  ⟨by rw [objCells_eq h1]; exact h.obj, by rw [h2]; exact h.map, h.nod, h.births, h.oks, h.len⟩
theorem MAt.alt {H : List PObj} {a mid : Nat} {s : Space} {n : BitVec 64} {es : List (Pfx × BitVec 64 × Nat)} {clock : Nat} (h : MAt H a mid s n es clock) : a < H.length ∧ mid < H.length :=
  ⟨objCells_lt h.obj, (List.getElem?_eq_some_iff.1 h.map).1⟩

def pick (es : List (Pfx × BitVec 64 × Nat)) : List Pfx → List Load
  | [] => []
  | p :: r => if 0 < (wOf p es).toNat then ⟨p, wOf p es⟩ :: pick es r else pick es r
/-- What a model tells as its loads. -/
def mloads (es : List (Pfx × BitVec 64 × Nat)) : List Load := pick es (sortK Pfx.cmp (keysP (entW es)))
theorem pick_snoc (es : List (Pfx × BitVec 64 × Nat)) : ∀ (l : List Pfx) (p : Pfx), pick es (l ++ [p]) = pick es l ++ (if 0 < (wOf p es).toNat then [⟨p, wOf p es⟩] else [])
  | [], p => by simp only [List.nil_append, pick]
  | q :: l, p => by
    simp only [List.cons_append, pick, pick_snoc es l p]
    split <;> simp
theorem pick_len (es : List (Pfx × BitVec 64 × Nat)) : ∀ l : List Pfx, (pick es l).length ≤ l.length
  | [] => by simp [pick]
  | q :: l => by
    have := pick_len es l
    rw [pick]; split <;> simp <;> omega
theorem plain_entW {es : List (Pfx × BitVec 64 × Nat)} : ∀ e ∈ entW es, plainP e.2.1 = true := by
  intro e he
  obtain ⟨x, _, rfl⟩ := List.mem_map.1 he
  rfl
theorem births_entW {es : List (Pfx × BitVec 64 × Nat)} {clock : Nat} (h : ∀ e ∈ es, e.2.2 < clock) : ∀ e ∈ entW es, e.2.2 < clock := by
  intro e he
  obtain ⟨x, hx, rfl⟩ := List.mem_map.1 he
  exact h x hx
theorem mloads_spec {H : List PObj} {a mid clock : Nat} {s : Space} {n : BitVec 64} {es : List (Pfx × BitVec 64 × Nat)} (h : MAt H a mid s n es clock) :
    Sum Tryz.prog 17 [.ptr a 0] H fun r H' => r = loads (mloads es) ∧ (H' = H ∨ ∃ x, H' = H ++ [x]) := by
  refine Sum.run mixed is17 (by simp [n17]) ?_
  have ⟨hlt, hmid⟩ := h.alt
  simp [c17, r17, rules]
  refine callK_by (made_spec h.obj) ⟨_, _, rfl, rfl⟩ ?_
  rintro _ _ ⟨rfl, rfl⟩
  have ho := h.obj
  simp [rules, ho, modelCells]
  refine callK_by (keys35_spec mid _) ⟨_, _, rfl, rfl⟩ ?_
  rintro _ _ ⟨rfl, rfl⟩
  simp [rules]
  refine callK_by (sortedFunc_spec tot_pcmp (fun x y => pcmp_zero) enters36 pcmp_spec is52 rfl rfl rfl h.map (by rw [entW_births]; exact h.nod) (births_entW h.births) (by have := h.len; simp [entW]; omega) plain_entW) ⟨_, _, rfl, .inl rfl⟩ ?_
  rintro _ H' ⟨rfl, hH'⟩
  have hMA : MAt H' a mid s n es clock := by
    rcases hH' with rfl | ⟨x, rfl⟩
    · exact h
    · exact h.move (List.getElem?_append_left hlt) (List.getElem?_append_left hmid)
  have hks : (sortK Pfx.cmp (keysP (entW es))).length = es.length := by rw [sortK_len]; simp [keysP, entW]
  have hml : mloads es = pick es (sortK Pfx.cmp (keysP (entW es))) := rfl
  rw [hml]
  have hei : (entW es).isEmpty = (sortK Pfx.cmp (keysP (entW es))).isEmpty := by
    rw [Bool.eq_iff_iff]
    simp only [List.isEmpty_iff_length_eq_zero, hks]
    simp [entW]
  rw [hei]
  generalize sortK Pfx.cmp (keysP (entW es)) = ks at hks ⊢
  have hle := h.len
  simp [rules, s_slcM]
  refine pwp_loop mixed (fun k st => ∃ d r, ks = d ++ r ∧ k = r.length ∧ st.H = H' ∧ st.t 0 = .ptr a 0 ∧ st.t 3 = .slc true ((pick es d).map Load.pv) ∧ st.t 15 = .slc ks.isEmpty (ks.map Pfx.pv) ∧ st.t 16 = i ks.length ∧ st.t 17 = i d.length) ks.length ⟨[], ks, by simp [rules, pick]⟩ ?_
  rintro k ⟨t, H2⟩ ⟨d, r, h1, h2, rfl, t0, t3, t15, t16, t17⟩
  simp only at t0 t3 t15 t16 t17 hMA hH'
  have hlen : ks.length = d.length + r.length := by rw [h1]; simp
  cases r with
  | nil =>
    have e1 : ¬ (d.length : Int) < ks.length := by rw [h1]; simp
    have e2 : ks = d := by simpa using h1
    subst e2
    simp [rules, t0, t3, t15, t16, t17, loads, s_slcM]
    exact hH'
  | cons p r =>
    have e1 : (d.length : Int) < ks.length := by rw [h1]; simp; omega
    have e2 : elemAt (ks.map Pfx.pv) d.length = some p.pv := elemAt_mid h1 rfl
    have hob := hMA.obj
    have hlk := look_pfx hMA.map p
    have hpl := pick_len es d
    have h9 : ((pick es d).length + 1) * 120 ≤ 140737488355328 ∧ (pick es d).length + 1 ≤ 9223372036854775807 := by omega
    have hsn := pick_snoc es d p
    simp only [Pfx.pv, Pfx.cells, kP, BitVec.ofNat_eq_ofNat] at hlk
    simp (disch := omega) [rules, t0, t3, t15, t16, t17, e1, e2, s_slcM, hob, modelCells, Pfx.pv, Pfx.cells, hlk]
    have hpv : Load.pv ⟨p, wOf p es⟩ = .agg [i p.a0, i p.a1, i p.k0.kind, i p.k0.len, u p.k0.hi, u p.k0.lo, tx p.k0.path, i p.k1.kind, i p.k1.len, u p.k1.hi, u p.k1.lo, tx p.k1.path, u (wOf p es)] := rfl
    by_cases g : 0 < (wOf p es).toNat
    · rw [if_pos g] at hsn
      have hal : (∀ x ∈ (pick es d).map Load.pv, x.cells.length = 13) = True := eq_true (fun x hx => by obtain ⟨q, _, rfl⟩ := List.mem_map.1 hx; rfl)
      simp (disch := omega) [rules, g, t0, t3, t15, t16, t17, h9, s_slcM, w64_id, Load.pv, Load.cells]
      exact ⟨r.length, by simp [h2], d ++ [p], r, by simp [h1], rfl, by rw [hsn, List.map_append, ← hpv]; rfl, by simp⟩
    · rw [if_neg g, List.append_nil] at hsn
      simp (disch := omega) [rules, g, t0, t3, t15, t16, t17, w64_id]
      exact ⟨r.length, by simp [h2], d ++ [p], r, by simp [h1], rfl, by rw [hsn], by simp⟩
end Go.Pi.M
namespace Go.Pi.M
open Go Go.Pi Go.Proofs Go.Sort
set_option maxRecDepth 10000

/-- What putting does to a model's entries. -/
def putS (s : Space) (n : BitVec 64) (es : List (Pfx × BitVec 64 × Nat)) (clock : Nat) (p : Pfx) (w : BitVec 64) : BitVec 64 × List (Pfx × BitVec 64 × Nat) × Nat :=
  if putE s n p w = 0 then (n + w, addW p w es clock) else (n, es, clock)
theorem addW_len (p : Pfx) (w : BitVec 64) (es : List (Pfx × BitVec 64 × Nat)) (clock : Nat) : (addW p w es clock).1.length ≤ es.length + 1 := by
  unfold addW
  split
  · split
    · simp
    · simp
  · simp
theorem addW_births {p : Pfx} {w : BitVec 64} {es : List (Pfx × BitVec 64 × Nat)} {clock : Nat} (hd : (es.map fun e => e.2.2).Nodup) (hb : ∀ e ∈ es, e.2.2 < clock) :
    ((addW p w es clock).1.map fun e => e.2.2).Nodup ∧ ∀ e ∈ (addW p w es clock).1, e.2.2 < (addW p w es clock).2 := by
  unfold addW
  split
  · rename_i k hk
    split
    · rename_i e he
      have hm := List.mem_of_getElem? he
      constructor
      · have : ((es.set k (e.1, e.2.1 + w, e.2.2)).map fun e => e.2.2) = es.map fun e => e.2.2 := by
          rw [List.map_set]
          apply List.ext_getElem?
          intro j
          rw [List.getElem?_set]
          split
          · rename_i hj; subst hj
            rw [if_pos (by simpa using (List.getElem?_eq_some_iff.1 he).1)]
            simp [he]
          · rfl
        simp only [this]; exact hd
      · intro x hx
        rcases List.mem_or_eq_of_mem_set hx with hx | rfl
        · exact hb x hx
        · exact hb e hm
    · exact ⟨hd, hb⟩
  · constructor
    · rw [List.map_append, List.nodup_append]
      refine ⟨hd, by simp, fun x hx y hy => ?_⟩
      obtain ⟨e, he, rfl⟩ := List.mem_map.1 hx
      have := hb e he
      simp at hy; omega
    · intro e he
      rcases List.mem_append.1 he with he | he
      · have := hb e he; simp only; omega
      · rw [List.mem_singleton.1 he]; simp
theorem addW_oks {p : Pfx} {w : BitVec 64} {es : List (Pfx × BitVec 64 × Nat)} {clock : Nat} (hp : p.ok) (ho : ∀ e ∈ es, e.1.ok) : ∀ e ∈ (addW p w es clock).1, e.1.ok := by
  unfold addW
  intro x hx
  split at hx
  · split at hx
    · rename_i e he
      rcases List.mem_or_eq_of_mem_set hx with hx | rfl
      · exact ho x hx
      · exact ho e (List.mem_of_getElem? he)
    · exact ho x hx
  · rcases List.mem_append.1 hx with hx | hx
    · exact ho x hx
    · rw [List.mem_singleton.1 hx]; exact hp

/-- Memory behind a put. -/
def putH (H : List PObj) (a mid clock : Nat) (s : Space) (n : BitVec 64) (es : List (Pfx × BitVec 64 × Nat)) (p : Pfx) (w : BitVec 64) : List PObj :=
  if putE s n p w = 0 then (H.set mid (.map (addW p w es clock).2 (ents (entW (addW p w es clock).1)))).set a (.cells (modelCells s (n + w) mid)) else H
def PutR (H H' : List PObj) (a mid clock : Nat) (s : Space) (n : BitVec 64) (es : List (Pfx × BitVec 64 × Nat)) (p : Pfx) (w : BitVec 64) : Prop :=
  MAt H' a mid s (putS s n es clock p w).1 (putS s n es clock p w).2.1 (putS s n es clock p w).2.2 ∧ H'.length = H.length ∧ ∀ id, id ≠ a → id ≠ mid → H'[id]? = H[id]?
theorem putH_at {H : List PObj} {a mid clock : Nat} {s : Space} {n : BitVec 64} {es : List (Pfx × BitVec 64 × Nat)} (h : MAt H a mid s n es clock) (p : Pfx) (hp : p.ok) (w : BitVec 64) (hl : es.length < 1000) :
    PutR H (putH H a mid clock s n es p w) a mid clock s n es p w := by
  unfold PutR putS putH
  have hne : mid ≠ a := by
    rintro rfl
    have := h.obj
    simp [objCells, h.map] at this
  by_cases g : putE s n p w = 0
  · simp only [if_pos g]
    have ⟨g1, g2⟩ := addW_births (p := p) (w := w) h.nod h.births
    refine ⟨⟨objCells_set (by rw [List.length_set]; exact h.alt.1), ?_, g1, g2, addW_oks hp h.oks, by have := addW_len p w es clock; omega⟩, by simp, fun id i1 i2 => ?_⟩
    · rw [List.getElem?_set_ne (Ne.symm hne), List.getElem?_set_self h.alt.2]
    · rw [List.getElem?_set_ne (Ne.symm i1), List.getElem?_set_ne (Ne.symm i2)]
  · simp only [if_neg g]
    exact ⟨h, trivial, fun _ _ _ => trivial⟩
/-- Put, told. -/
theorem mput_at {H : List PObj} {a mid clock : Nat} {s : Space} {n : BitVec 64} {es : List (Pfx × BitVec 64 × Nat)} (h : MAt H a mid s n es clock) (p : Pfx) (hp : p.ok) (w : BitVec 64) (hl : es.length < 1000) :
    Sum Tryz.prog 8 [.ptr a 0, p.pv, u w] H fun r H' => r = i (putE s n p w) ∧ PutR H H' a mid clock s n es p w :=
  (mput_spec h.obj h.map h.nod h.births p hp w).mono fun r H' ⟨h1, h2⟩ => ⟨h1, by rw [h2]; exact putH_at h p hp w hl⟩

theorem spaceNe {s q : Space} : (!decide (s.n = q.n) || (!decide (s.d0.kind = q.d0.kind) || (!decide (s.d0.side = q.d0.side) || (!decide (s.d0.step = q.d0.step) || (!decide (s.d1.kind = q.d1.kind) || (!decide (s.d1.side = q.d1.side) || !decide (s.d1.step = q.d1.step))))))) = !decide (s = q) := by
  rw [← spaceEq]; simp only [Bool.not_and]
/-- Puts, one after another. -/
def putAll (s : Space) : List Load → BitVec 64 × List (Pfx × BitVec 64 × Nat) × Nat → BitVec 64 × List (Pfx × BitVec 64 × Nat) × Nat
  | [], x => x
  | l :: r, x => putAll s r (putS s x.1 x.2.1 x.2.2 l.p l.w)
def joinE (s : Space) (n : BitVec 64) (s' : Space) (n' : BitVec 64) : Int :=
  if s ≠ s' then 14 else if (room n').toNat < n.toNat then 13 else 0
theorem putS_len (s : Space) (x : BitVec 64 × List (Pfx × BitVec 64 × Nat) × Nat) (p : Pfx) (w : BitVec 64) : (putS s x.1 x.2.1 x.2.2 p w).2.1.length ≤ x.2.1.length + 1 := by
  unfold putS; split
  · exact addW_len ..
  · simp
theorem putAll_len (s : Space) : ∀ (l : List Load) (x : BitVec 64 × List (Pfx × BitVec 64 × Nat) × Nat), (putAll s l x).2.1.length ≤ x.2.1.length + l.length
  | [], x => by simp [putAll]
  | y :: r, x => by
    have h1 := putAll_len s r (putS s x.1 x.2.1 x.2.2 y.p y.w)
    have h2 := putS_len s x y.p y.w
    rw [putAll, List.length_cons]
    omega
theorem putAll_snoc (s : Space) : ∀ (l : List Load) (y : Load) (x : BitVec 64 × List (Pfx × BitVec 64 × Nat) × Nat), putAll s (l ++ [y]) x = putS s (putAll s l x).1 (putAll s l x).2.1 (putAll s l x).2.2 y.p y.w
  | [], y, x => rfl
  | z :: r, y, x => by rw [List.cons_append, putAll, putAll_snoc s r y, putAll]
theorem pick_mem (es : List (Pfx × BitVec 64 × Nat)) : ∀ (l : List Pfx) (x : Load), x ∈ pick es l → x.p ∈ l ∧ x.w = wOf x.p es ∧ 0 < x.w.toNat
  | [], x, h => by simp [pick] at h
  | q :: l, x, h => by
    rw [pick] at h
    split at h
    · rename_i g
      rcases List.mem_cons.1 h with rfl | h
      · exact ⟨by simp, rfl, g⟩
      · have := pick_mem es l x h
        exact ⟨List.mem_cons_of_mem _ this.1, this.2⟩
    · have := pick_mem es l x h
      exact ⟨List.mem_cons_of_mem _ this.1, this.2⟩
theorem mloads_mem {es : List (Pfx × BitVec 64 × Nat)} {x : Load} (h : x ∈ mloads es) : ∃ e ∈ es, e.1 = x.p := by
  have h1 := (pick_mem es _ x h).1
  have h2 := (sortK_perm Pfx.cmp (keysP (entW es))).mem_iff.1 h1
  simp only [keysP, entW, List.map_map, List.mem_map] at h2
  obtain ⟨e, he, h3⟩ := h2
  exact ⟨e, he, h3⟩
theorem mloads_len (es : List (Pfx × BitVec 64 × Nat)) : (mloads es).length ≤ es.length := by
  have h := pick_len es (sortK Pfx.cmp (keysP (entW es)))
  rw [sortK_len] at h
  unfold mloads
  simpa [keysP, entW] using h
theorem mjoin_spec {H : List PObj} {a mid clock : Nat} {s : Space} {n : BitVec 64} {es : List (Pfx × BitVec 64 × Nat)} (h : MAt H a mid s n es clock)
    {a' mid' clock' : Nat} {s' : Space} {n' : BitVec 64} {es' : List (Pfx × BitVec 64 × Nat)} (h' : MAt H a' mid' s' n' es' clock') (hl : es.length + es'.length < 1000) :
    Sum Tryz.prog 10 [.ptr a 0, .ptr a' 0] H fun r H' => r = i (joinE s n s' n') ∧ H.length ≤ H'.length ∧ (∀ id, id < H.length → id ≠ a → id ≠ mid → H'[id]? = H[id]?) ∧
      ∃ x : BitVec 64 × List (Pfx × BitVec 64 × Nat) × Nat, x = (if joinE s n s' n' = 0 then putAll s (mloads es') (n, es, clock) else (n, es, clock)) ∧ MAt H' a mid s x.1 x.2.1 x.2.2 := by
  refine Sum.run mixed is10 (by simp [n10]) ?_
  have ⟨hlt, hmid⟩ := h.alt
  have ⟨hlt', hmid'⟩ := h'.alt
  simp [c10, r10, rules]
  refine callK_by (made_spec h.obj) ⟨_, _, rfl, rfl⟩ ?_
  rintro _ _ ⟨rfl, rfl⟩
  simp [rules]
  refine callK_by (made_spec h'.obj) ⟨_, _, rfl, rfl⟩ ?_
  rintro _ H0 ⟨rfl, hH0⟩
  subst hH0
  have ho := h.obj
  have ho' := h'.obj
  simp [rules, ho, ho', modelCells, spaceNe]
  by_cases e : s = s'
  · subst e
    have hje : joinE s n s n' = if (room n').toNat < n.toNat then 13 else 0 := by unfold joinE; rw [if_neg (by simp)]
    obtain ⟨X, hX⟩ : ∃ X, room n' = X := ⟨_, rfl⟩
    rw [hX] at hje
    have hv : binPV .sub (u 4611686018427387904#64) (u n') = some (u X) := by rw [v_room, hX]
    clear hX
    by_cases g : X.toNat < n.toNat
    · rw [if_pos g] at hje
      rw [hje]
      simp [hv, rules, g, ho, ho', modelCells]
      exact h
    · rw [if_neg g] at hje
      rw [hje]
      simp [hv, rules, g, ho, ho', modelCells]
      refine callK_by (mloads_spec h') ⟨_, _, rfl, .inl rfl⟩ ?_
      rintro _ H1 ⟨rfl, hH1⟩
      have hMA : MAt H1 a mid s n es clock := by
        rcases hH1 with rfl | ⟨x, rfl⟩
        · exact h
        · exact h.move (List.getElem?_append_left hlt) (List.getElem?_append_left hmid)
      have hk1 : H0.length ≤ H1.length ∧ ∀ id, id < H0.length → H1[id]? = H0[id]? := by
        rcases hH1 with rfl | ⟨x, rfl⟩
        · exact ⟨Nat.le_refl _, fun _ _ => rfl⟩
        · exact ⟨by simp, fun id hid => List.getElem?_append_left hid⟩
      have hoks : ∀ x ∈ mloads es', x.p.ok := fun x hx => by
        obtain ⟨e, he, h3⟩ := mloads_mem hx
        rw [← h3]; exact h'.oks e he
      have hml := mloads_len es'
      generalize mloads es' = L at hoks hml ⊢
      simp [rules, loads_strip, loads_len]
      refine pwp_loop mixed (fun k st => ∃ d r, L = d ++ r ∧ k = r.length ∧ st.t 0 = .ptr a 0 ∧ st.t 38 = loads L ∧ st.t 39 = i L.length ∧ st.t 40 = i d.length ∧
        MAt st.H a mid s (putAll s d (n, es, clock)).1 (putAll s d (n, es, clock)).2.1 (putAll s d (n, es, clock)).2.2 ∧ H0.length ≤ st.H.length ∧ ∀ id, id < H0.length → id ≠ a → id ≠ mid → st.H[id]? = H0[id]?) L.length
        ⟨[], L, by simp [rules, putAll, hMA, hk1]; exact fun id hid _ _ => hk1.2 id hid⟩ ?_
      rintro k ⟨t, H2⟩ ⟨d, r, h1, h2, t0, t38, t39, t40, hM2, hl2, hs2⟩
      simp only at t0 t38 t39 t40 hM2 hl2 hs2
      have hlen : L.length = d.length + r.length := by rw [h1]; simp
      cases r with
      | nil =>
        have e1 : ¬ (d.length : Int) < L.length := by rw [h1]; simp
        have e2 : L = d := by simpa using h1
        subst e2
        simp [rules, t0, t38, t39, t40]
        exact ⟨hl2, hs2, hM2⟩
      | cons x r =>
        have e1 : (d.length : Int) < L.length := by rw [h1]; simp; omega
        have e2 : elemAt (L.map Load.pv) d.length = some x.pv := elemAt_mid h1 rfl
        have hpl := putAll_len s d (n, es, clock)
        simp (disch := omega) [rules, t0, t38, t39, t40, e1, e2, loads_strip, loads_idx, Load.pv, Load.cells]
        have hxo := hoks x (by rw [h1]; simp)
        have hxl : (putAll s d (n, es, clock)).2.1.length < 1000 := by simp at hpl hlen ⊢; omega
        refine callK_by (mput_at hM2 x.p hxo x.w hxl) ⟨_, _, rfl, putH_at hM2 x.p hxo x.w hxl⟩ ?_
        rintro _ H3 ⟨rfl, hM3, hl3, hs3⟩
        simp (disch := omega) [rules, t0, t38, t39, t40, w64_id]
        refine ⟨r.length, by simp [h2], d ++ [x], r, by simp [h1], rfl, by simp, ?_, by rw [hl3]; exact hl2, fun id i1 i2 i3 => (hs3 id i2 i3).trans (hs2 id i1 i2 i3)⟩
        rw [putAll_snoc]
        exact hM3
  · have hje : joinE s n s' n' = 14 := by unfold joinE; rw [if_pos e]
    rw [hje]
    simp [rules, e]
    exact h
end Go.Pi.M
namespace Go.Pi.M
open Go Go.Pi Go.Proofs Go.Sort
set_option maxRecDepth 10000

/-- Counts by prefix, with their birth marks. -/
def entI (es : List (Pfx × Int × Nat)) : List (Pfx × PV × Nat) := es.map fun e => (e.1, i e.2.1, e.2.2)
def cOf (p : Pfx) (es : List (Pfx × Int × Nat)) : Int := match es.find? fun e => decide (p = e.1) with | some e => e.2.1 | none => 0
theorem findIdx_entI (p : Pfx) (es : List (Pfx × Int × Nat)) : (entI es).findIdx? (fun e => decide (p = e.1)) = es.findIdx? fun e => decide (p = e.1) := by
  unfold entI
  rw [List.findIdx?_map]
  rfl
theorem look_pfxI {H : List PObj} {mid clock : Nat} {es : List (Pfx × Int × Nat)} (hm : H[mid]? = some (.map clock (ents (entI es)))) (p : Pfx) :
    lookPV H kP (i 0) false (.map mid) p.pv = some (i (cOf p es)) := by
  simp only [lookPV, mapOf, hm, Option.bind_some, keyEq_pfx, Option.isSome_some, if_true, findK_pfx, findIdx_entI, Option.map_some, Bool.false_eq_true, if_false]
  unfold cOf
  cases h : es.findIdx? fun e => decide (p = e.1) with
  | none =>
    have : (es.find? fun e => decide (p = e.1)) = none := by
      rw [List.findIdx?_eq_none_iff] at h
      rw [List.find?_eq_none]
      intro x hx
      simpa using h x hx
    simp [this, v_si]
  | some k =>
    rw [List.findIdx?_eq_some_iff_getElem] at h
    obtain ⟨hk, h1, h2⟩ := h
    have : (es.find? fun e => decide (p = e.1)) = some es[k] := by
      rw [List.find?_eq_some_iff_getElem]
      refine ⟨h1, k, hk, rfl, fun j hj => ?_⟩
      simpa using h2 j hj
    simp [this, ents, entI, List.getElem?_eq_getElem hk, v_si]
theorem mentry_hitI {H : List PObj} {mid clock : Nat} {es : List (Pfx × PV × Nat)} (hm : H[mid]? = some (.map clock (ents es))) {p : Pfx} {k : Nat} {e : Pfx × PV × Nat}
    (hk : es.findIdx? (fun e => decide (p = e.1)) = some k) (he : es[k]? = some e) : mentryPV H kP (i 0) (.map mid) p.pv = some (.tup [e.2.1, i e.2.2], H) := by
  have hp : p = e.1 := by
    rw [List.findIdx?_eq_some_iff_getElem] at hk
    obtain ⟨h1, h2, _⟩ := hk
    rw [List.getElem?_eq_getElem h1] at he
    cases he
    simpa using h2
  have hset : (ents es).set k (p.pv, e.2) = ents es := by
    apply List.ext_getElem?
    intro j
    rw [List.getElem?_set]
    split
    · rename_i hj
      subst hj
      have hl : k < (ents es).length := by rw [ents_len]; exact (List.getElem?_eq_some_iff.1 he).1
      rw [if_pos hl, ents_get, he, hp]; rfl
    · rfl
  have hH : H.set mid (.map clock (ents es)) = H := by
    apply List.ext_getElem?
    intro j
    rw [List.getElem?_set]
    split
    · rename_i hj; subst hj
      rw [if_pos (List.getElem?_eq_some_iff.1 hm).1, hm]
    · rfl
  simp only [mentryPV, hm, elemOK_pfx, keyEq_pfx, Option.isSome_some, Bool.and_self, if_true, findK_pfx, hk, Option.bind_some, ents_get, he, Option.map_some, stripAll_pfx]
  have hset' : (ents es).set k (p.pv, e.2.1, e.2.2) = ents es := hset
  rw [hset', hH]
  rfl
theorem mentry_missI {H : List PObj} {mid clock : Nat} {es : List (Pfx × PV × Nat)} (hm : H[mid]? = some (.map clock (ents es))) {p : Pfx}
    (hk : es.findIdx? (fun e => decide (p = e.1)) = none) : mentryPV H kP (i 0) (.map mid) p.pv = some (.tup [i 0, i clock], H.set mid (.map (clock + 1) (ents (es ++ [(p, i 0, clock)])))) := by
  simp only [mentryPV, hm, elemOK_pfx, keyEq_pfx, Option.isSome_some, Bool.and_self, if_true, findK_pfx, hk, Option.bind_some, stripAll_pfx]
  simp [ents]; rfl
theorem mstore_atI {H : List PObj} {mid clock : Nat} {es : List (Pfx × PV × Nat)} (hm : H[mid]? = some (.map clock (ents es))) (hd : (es.map fun e => e.2.2).Nodup) {k : Nat} {e : Pfx × PV × Nat} (he : es[k]? = some e) (v : Int) :
    mstorePV H (.map mid) (i e.2.2) (i v) = some (H.set mid (.map clock (ents (es.set k (e.1, i v, e.2.2))))) := by
  have hf : (ents es).findIdx? (fun x => ((x.2.2 : Nat) : Int) == (e.2.2 : Int)) = some k := by
    rw [List.findIdx?_eq_some_iff_getElem]
    have hl := (List.getElem?_eq_some_iff.1 he).1
    have hg := (List.getElem?_eq_some_iff.1 he).2
    refine ⟨by rw [ents_len]; exact hl, by simp [ents, hg], fun j hj => ?_⟩
    have hj' : j < es.length := by omega
    have : ¬ es[j].2.2 = e.2.2 := by
      intro h
      have := (List.pairwise_iff_getElem.1 hd) j k (by simpa using hj') (by simpa using hl) hj
      apply this
      simp only [List.getElem_map, hg, h]
    simp only [ents, List.getElem_map, beq_iff_eq]
    omega
  have hs : (ents es).set k (e.1.pv, stripAll (i v), e.2.2) = ents (es.set k (e.1, i v, e.2.2)) := by
    unfold ents
    rw [List.map_set]
    rfl
  have h1 : mstorePV H (.map mid) (i e.2.2) (i v) = ((ents es).findIdx? fun x => ((x.2.2 : Nat) : Int) == (e.2.2 : Int)).bind fun j => ((ents es)[j]?).map fun x => H.set mid (.map clock ((ents es).set j (x.1, stripAll (i v), x.2.2))) := by
    simp only [mstorePV, i, hm]
    rfl
  rw [h1, hf, Option.bind_some, ents_get, he]
  simp only [Option.map_some, hs]
theorem entI_set {es : List (Pfx × Int × Nat)} {k : Nat} {e : Pfx × Int × Nat} : entI (es.set k e) = (entI es).set k (e.1, i e.2.1, e.2.2) := by unfold entI; rw [List.map_set]
theorem entI_get {es : List (Pfx × Int × Nat)} {k : Nat} : (entI es)[k]? = (es[k]?).map fun e => (e.1, i e.2.1, e.2.2) := by simp [entI]
theorem entI_births {es : List (Pfx × Int × Nat)} : (entI es).map (fun e => e.2.2) = es.map fun e => e.2.2 := by simp [entI]
theorem entI_snoc {es : List (Pfx × Int × Nat)} {e : Pfx × Int × Nat} : entI (es ++ [e]) = entI es ++ [(e.1, i e.2.1, e.2.2)] := by simp [entI]
def addI (p : Pfx) (es : List (Pfx × Int × Nat)) (clock : Nat) : List (Pfx × Int × Nat) × Nat :=
  match es.findIdx? fun e => decide (p = e.1) with
  | some k => match es[k]? with
    | some e => (es.set k (e.1, w64 (e.2.1 + 1), e.2.2), clock)
    | none => (es, clock)
  | none => (es ++ [(p, 1, clock)], clock + 1)
/-- What a map's '+=' does. -/
theorem put_mapI {H : List PObj} {mid clock : Nat} {es : List (Pfx × Int × Nat)} (hm : H[mid]? = some (.map clock (ents (entI es)))) (hd : (es.map fun e => e.2.2).Nodup) (hb : ∀ e ∈ es, e.2.2 < clock) (p : Pfx)  :
    ∃ (v : PV) (b : Int) (H1 : List PObj), mentryPV H kP (i 0) (.map mid) p.pv = some (.tup [v, i b], H1) ∧ mstorePV H1 (.map mid) (i b) (i (w64 (cOf p es + 1))) = some (H.set mid (.map (addI p es clock).2 (ents (entI (addI p es clock).1)))) := by
  have hlt := (List.getElem?_eq_some_iff.1 hm).1
  cases hk : es.findIdx? fun e => decide (p = e.1) with
  | some k =>
    have hk' := hk
    rw [List.findIdx?_eq_some_iff_getElem] at hk'
    obtain ⟨h1, h2, h3⟩ := hk'
    have he : es[k]? = some es[k] := List.getElem?_eq_getElem h1
    have hw : cOf p es = es[k].2.1 := by
      have : (es.find? fun e => decide (p = e.1)) = some es[k] := by
        rw [List.find?_eq_some_iff_getElem]
        exact ⟨h2, k, h1, rfl, fun j hj => by simpa using h3 j hj⟩
      unfold cOf; rw [this]
    have ha : addI p es clock = (es.set k (es[k].1, w64 (es[k].2.1 + 1), es[k].2.2), clock) := by unfold addI; rw [hk]; simp only [he]
    have he' : (entI es)[k]? = some (es[k].1, i es[k].2.1, es[k].2.2) := by rw [entI_get, he]; rfl
    refine ⟨_, _, H, mentry_hitI hm (by rw [findIdx_entI]; exact hk) he', ?_⟩
    rw [mstore_atI hm (by rw [entI_births]; exact hd) he', ha, hw, entI_set]
  | none =>
    have hw : cOf p es = 0 := by
      have : (es.find? fun e => decide (p = e.1)) = none := by
        rw [List.findIdx?_eq_none_iff] at hk
        rw [List.find?_eq_none]
        intro x hx; simpa using hk x hx
      unfold cOf; rw [this]
    have ha : addI p es clock = (es ++ [(p, 1, clock)], clock + 1) := by unfold addI; rw [hk]
    refine ⟨_, _, _, mentry_missI hm (by rw [findIdx_entI]; exact hk), ?_⟩
    have hm2 : (H.set mid (.map (clock + 1) (ents (entI es ++ [(p, i 0, clock)]))))[mid]? = some (.map (clock + 1) (ents (entI es ++ [(p, i 0, clock)]))) := List.getElem?_set_self hlt
    have hn2 : ((entI es ++ [(p, i 0, clock)]).map fun e => e.2.2).Nodup := by
      rw [List.map_append, entI_births, List.nodup_append]
      refine ⟨hd, by simp, fun x hx y hy => ?_⟩
      obtain ⟨e, he, rfl⟩ := List.mem_map.1 hx
      have := hb e he
      simp at hy; omega
    have he2 : (entI es ++ [(p, i 0, clock)])[es.length]? = some (p, i 0, clock) := by
      have : (entI es).length = es.length := by simp [entI]
      rw [← this]; simp
    rw [mstore_atI hm2 hn2 he2, List.set_set, ha, hw, entI_snoc]
    have : (entI es ++ [(p, i 0, clock)]).set es.length (p, i (w64 (0 + 1)), clock) = entI es ++ [(p, i 1, clock)] := by
      have : (entI es).length = es.length := by simp [entI]
      have h1 : w64 1 = 1 := w64_id (by decide) (by decide)
      rw [← this]; simp [h1]
    simp only [this]
end Go.Pi.M
namespace Go.Pi.M
open Go Go.Pi Go.Proofs Go.Sort
set_option maxRecDepth 10000

abbrev Cnt := List (Pfx × Int × Nat)
/-- Counting prefixes. -/
def addAll : List Pfx → Cnt × Nat → Cnt × Nat
  | [], x => x
  | p :: r, x => addAll r (addI p x.1 x.2)
def addOver (s : Space) : List Load → Cnt × Nat → Cnt × Nat
  | [], x => x
  | l :: r, x => addOver s r (addAll (s.all l.p) x)
/-- What a model tells as over its loads. -/
def mover (s : Space) (es : List (Pfx × BitVec 64 × Nat)) : List Pfx := sortK Pfx.byHeight (keysP (entI (addOver s (mloads es) ([], 0)).1))
theorem addI_len (p : Pfx) (es : Cnt) (clock : Nat) : (addI p es clock).1.length ≤ es.length + 1 := by
  unfold addI
  split
  · split
    · simp
    · simp
  · simp
theorem addAll_len : ∀ (l : List Pfx) (x : Cnt × Nat), (addAll l x).1.length ≤ x.1.length + l.length
  | [], x => by simp [addAll]
  | p :: r, x => by
    have h1 := addAll_len r (addI p x.1 x.2)
    have h2 := addI_len p x.1 x.2
    rw [addAll, List.length_cons]; omega
theorem addAll_snoc : ∀ (l : List Pfx) (p : Pfx) (x : Cnt × Nat), addAll (l ++ [p]) x = addI p (addAll l x).1 (addAll l x).2
  | [], p, x => rfl
  | q :: r, p, x => by rw [List.cons_append, addAll, addAll_snoc r p, addAll]
theorem all_len (s : Space) (p : Pfx) : (s.all p).length ≤ 40000 := by
  unfold Space.all
  split
  · exact Nat.le_trans (overs_len s p s.nodes) (nodes_len s)
  · simp
theorem addOver_snoc (s : Space) : ∀ (l : List Load) (y : Load) (x : Cnt × Nat), addOver s (l ++ [y]) x = addAll (s.all y.p) (addOver s l x)
  | [], y, x => rfl
  | q :: r, y, x => by rw [List.cons_append, addOver, addOver_snoc s r y, addOver]
theorem addOver_len (s : Space) : ∀ (l : List Load) (x : Cnt × Nat), (addOver s l x).1.length ≤ x.1.length + l.length * 40000
  | [], x => by simp [addOver]
  | y :: r, x => by
    have h1 := addOver_len s r (addAll (s.all y.p) x)
    have h2 := addAll_len (s.all y.p) x
    have h3 := all_len s y.p
    rw [addOver, List.length_cons]; omega
/-- A count's invariant. -/
structure CntOK (x : Cnt × Nat) : Prop where
  nod : (x.1.map fun e => e.2.2).Nodup
  births : ∀ e ∈ x.1, e.2.2 < x.2
theorem addI_ok {p : Pfx} {x : Cnt × Nat} (h : CntOK x) : CntOK (addI p x.1 x.2) := by
  obtain ⟨hd, hb⟩ := h
  obtain ⟨es, clock⟩ := x
  simp only at hd hb ⊢
  unfold addI
  split
  · rename_i k hk
    split
    · rename_i e he
      have hm := List.mem_of_getElem? he
      constructor
      · have : ((es.set k (e.1, w64 (e.2.1 + 1), e.2.2)).map fun e => e.2.2) = es.map fun e => e.2.2 := by
          rw [List.map_set]
          apply List.ext_getElem?
          intro j
          rw [List.getElem?_set]
          split
          · rename_i hj; subst hj
            rw [if_pos (by simpa using (List.getElem?_eq_some_iff.1 he).1)]
            simp [he]
          · rfl
        simp only [this]; exact hd
      · intro x hx
        rcases List.mem_or_eq_of_mem_set hx with hx | rfl
        · exact hb x hx
        · exact hb e hm
    · exact ⟨hd, hb⟩
  · constructor
    · rw [List.map_append, List.nodup_append]
      refine ⟨hd, by simp, fun x hx y hy => ?_⟩
      obtain ⟨e, he, rfl⟩ := List.mem_map.1 hx
      have := hb e he
      simp at hy; omega
    · intro e he
      rcases List.mem_append.1 he with he | he
      · have := hb e he; simp only; omega
      · rw [List.mem_singleton.1 he]; simp
theorem addAll_ok : ∀ {l : List Pfx} {x : Cnt × Nat}, CntOK x → CntOK (addAll l x)
  | [], _, h => h
  | _ :: r, _, h => addAll_ok (l := r) (addI_ok h)
theorem addOver_ok {s : Space} : ∀ {l : List Load} {x : Cnt × Nat}, CntOK x → CntOK (addOver s l x)
  | [], _, h => h
  | _ :: r, _, h => addOver_ok (l := r) (addAll_ok h)
theorem plain_entI {es : Cnt} : ∀ e ∈ entI es, plainP e.2.1 = true := by
  intro e he
  obtain ⟨x, _, rfl⟩ := List.mem_map.1 he
  rfl
theorem births_entI {es : Cnt} {clock : Nat} (h : ∀ e ∈ es, e.2.2 < clock) : ∀ e ∈ entI es, e.2.2 < clock := by
  intro e he
  obtain ⟨x, hx, rfl⟩ := List.mem_map.1 he
  exact h x hx

theorem pfxs_idx {l : List Pfx} {j : Int} {k : Nat} : pidxSPV (pfxs l) (i j) k = (elemAt (l.map Pfx.pv) j).bind fun e => if e.cells.length = k then some (.ept e.cells 0) else none := v_pidxS
theorem mover_spec {H : List PObj} {a mid clock : Nat} {s : Space} {n : BitVec 64} {es : List (Pfx × BitVec 64 × Nat)} (h : MAt H a mid s n es clock) (hl : es.length ≤ 25) :
    Sum Tryz.prog 18 [.ptr a 0] H fun r H' => r = pfxs (mover s es) ∧ H.length ≤ H'.length ∧ ∀ id, id < H.length → H'[id]? = H[id]? := by
  refine Sum.run mixed is18 (by simp [n18]) ?_
  have ⟨hlt, hmid⟩ := h.alt
  simp [c18, r18, rules]
  refine callK_by (made_spec h.obj) ⟨_, _, rfl, rfl⟩ ?_
  rintro _ H0 ⟨rfl, hH0⟩
  subst hH0
  simp [rules]
  have h1 : MAt (H0 ++ [.map 0 []]) a mid s n es clock := h.move (List.getElem?_append_left hlt) (List.getElem?_append_left hmid)
  refine callK_by (mloads_spec h1) ⟨_, _, rfl, .inl rfl⟩ ?_
  rintro _ H1 ⟨rfl, hH1⟩
  have hMA : MAt H1 a mid s n es clock := by
    rcases hH1 with rfl | ⟨x, rfl⟩
    · exact h1
    · exact h1.move (List.getElem?_append_left (by simp; omega)) (List.getElem?_append_left (by simp; omega))
  have hk1 : H0.length < H1.length ∧ H1[H0.length]? = some (.map 0 (ents (entI []))) ∧ ∀ id, id < H0.length → H1[id]? = H0[id]? := by
    rcases hH1 with rfl | ⟨x, rfl⟩
    · exact ⟨by simp, by simp [ents, entI], fun id hid => List.getElem?_append_left hid⟩
    · refine ⟨by simp, by simp [ents, entI], fun id hid => ?_⟩
      rw [List.append_assoc, List.getElem?_append_left hid]
  clear hH1
  have hoks : ∀ x ∈ mloads es, x.p.ok := fun x hx => by
    obtain ⟨e, he, h3⟩ := mloads_mem hx
    rw [← h3]; exact h.oks e he
  have hml := mloads_len es
  have hmo : mover s es = sortK Pfx.byHeight (keysP (entI (addOver s (mloads es) ([], 0)).1)) := rfl
  rw [hmo]
  generalize mloads es = L at hoks hml ⊢
  simp [rules, loads_strip, loads_len]
  refine pwp_loop mixed (fun k st => ∃ d r, L = d ++ r ∧ k = r.length ∧ st.t 0 = .ptr a 0 ∧ st.t 3 = .map H0.length ∧ st.t 13 = loads L ∧ st.t 14 = i L.length ∧ st.t 15 = i d.length ∧
    H0.length < st.H.length ∧ st.H[H0.length]? = some (.map (addOver s d ([], 0)).2 (ents (entI (addOver s d ([], 0)).1))) ∧ (∀ id, id < H0.length → st.H[id]? = H0[id]?)) L.length
    ⟨[], L, rfl, rfl, by simp [rules], by simp [rules], by simp [rules], by simp [rules], by simp [rules], hk1.1, hk1.2.1, hk1.2.2⟩ ?_
  clear hMA hk1
  rintro k ⟨t, H2⟩ ⟨d, r, h1, h2, t0, t3, t13, t14, t15, hl2, hm2, hs2⟩
  simp only at t0 t3 t13 t14 t15 hl2 hm2 hs2
  have hlen : L.length = d.length + r.length := by rw [h1]; simp
  have hM2 : MAt H2 a mid s n es clock := h.move (hs2 a hlt) (hs2 mid hmid)
  have hok : CntOK (addOver s d ([], 0)) := addOver_ok ⟨by simp, by simp⟩
  have hol := addOver_len s d ([], 0)
  cases r with
  | nil =>
    have e1 : ¬ (d.length : Int) < L.length := by rw [h1]; simp
    have e2 : L = d := by simpa using h1
    subst e2
    simp [rules, t0, t3, t13, t14, t15]
    refine callK_by (keys38_spec H0.length _) ⟨_, _, rfl, rfl⟩ ?_
    rintro _ _ ⟨rfl, rfl⟩
    simp [rules]
    have hXl : (addOver s L ([], 0)).1.length ≤ 1000000 := by
      have : ([] : Cnt).length = 0 := rfl
      simp only [this] at hol
      omega
    refine callK_by (sortedFunc_spec tot_byHeight (fun x y => byHeight_zero) enters39 byHeight_spec is58 rfl rfl rfl hm2 (by rw [entI_births]; exact hok.nod) (births_entI hok.births) (by simp [entI]; exact hXl) plain_entI) ⟨_, _, rfl, .inl rfl⟩ ?_
    rintro _ H' ⟨rfl, hH'⟩
    have hei : (entI (addOver s L ([], 0)).1).isEmpty = (sortK Pfx.byHeight (keysP (entI (addOver s L ([], 0)).1))).isEmpty := by
      rw [Bool.eq_iff_iff]
      simp only [List.isEmpty_iff_length_eq_zero, sortK_len]
      simp [entI, keysP]
    rw [hei]
    generalize sortK Pfx.byHeight (keysP (entI (addOver s L ([], 0)).1)) = Z
    simp [rules]
    have hz : (PV.slc Z.isEmpty (List.map Pfx.pv Z)).strip.strip = pfxs Z := by cases Z <;> rfl
    refine ⟨hz, ?_⟩
    rcases hH' with rfl | ⟨x, rfl⟩
    · exact ⟨Nat.le_of_lt hl2, hs2⟩
    · exact ⟨by simp; omega, fun id hid => (List.getElem?_append_left (Nat.lt_trans hid hl2)).trans (hs2 id hid)⟩
  | cons x r =>
    have e1 : (d.length : Int) < L.length := by rw [h1]; simp; omega
    have e2 : elemAt (L.map Load.pv) d.length = some x.pv := elemAt_mid h1 rfl
    have hob := hM2.obj
    simp (disch := omega) [rules, t0, t3, t13, t14, t15, e1, e2, loads_strip, loads_idx, Load.pv, Load.cells, hob, modelCells]
    refine pureK_by (all_spec s x.p (hoks x (by rw [h1]; simp))) ?_
    have hal := all_len s x.p
    have hsn := addOver_snoc s d x ([], 0)
    generalize s.all x.p = N at hal hsn ⊢
    generalize addOver s d ([], 0) = X at hm2 hok hol hsn
    simp [rules, pfxs_strip, pfxs_len]
    refine pwp_loop mixed (fun k' st => ∃ d' r', N = d' ++ r' ∧ k' = r'.length ∧ st.t 0 = .ptr a 0 ∧ st.t 3 = .map H0.length ∧ st.t 13 = loads L ∧ st.t 14 = i L.length ∧ st.t 15 = i d.length ∧ st.t 25 = pfxs N ∧ st.t 26 = i N.length ∧ st.t 27 = i d'.length ∧
      H0.length < st.H.length ∧ st.H[H0.length]? = some (.map (addAll d' X).2 (ents (entI (addAll d' X).1))) ∧ (∀ id, id < H0.length → st.H[id]? = H0[id]?)) N.length
      ⟨[], N, rfl, rfl, by simp [rules, t0], by simp [rules, t3], by simp [rules, t13], by simp [rules, t14], by simp [rules, t15], by simp [rules], by simp [rules], by simp [rules], hl2, hm2, hs2⟩ ?_
    clear t0 t3 t13 t14 t15 hM2 hob hm2 hs2 hl2
    rintro k' ⟨t, H3⟩ ⟨d', r', g1, g2, t0, t3, t13, t14, t15, t25, t26, t27, hl2, hm2, hs2⟩
    simp only at t0 t3 t13 t14 t15 t25 t26 t27 hl2 hm2 hs2
    have hlen' : N.length = d'.length + r'.length := by rw [g1]; simp
    cases r' with
    | nil =>
      have e3 : ¬ (d'.length : Int) < N.length := by rw [g1]; simp
      have e4 : N = d' := by simpa using g1
      subst e4
      simp (disch := omega) [rules, t0, t3, t13, t14, t15, t25, t26, t27, w64_id]
      exact ⟨r.length, by simp [h2], d ++ [x], r, by simp [h1], rfl, by simp, hl2, by rw [hsn]; exact (List.getElem?_eq_some_iff.1 hm2).2, hs2⟩
    | cons q r' =>
      have e3 : (d'.length : Int) < N.length := by rw [g1]; simp; omega
      have e4 : elemAt (N.map Pfx.pv) d'.length = some q.pv := elemAt_mid g1 rfl
      have hok' : CntOK (addAll d' X) := addAll_ok hok
      obtain ⟨v, b, H4, m1, m2⟩ := put_mapI hm2 hok'.nod hok'.births q
      have hlk := look_pfxI hm2 q
      simp only [Pfx.pv, Pfx.cells, kP] at m1 hlk
      have hsn' := addAll_snoc d' q X
      simp (disch := omega) [rules, t0, t3, t13, t14, t15, t25, t26, t27, e3, e4, pfxs_strip, pfxs_idx, Pfx.pv, Pfx.cells, hlk, m1, r_entS]
      simp [rules, m2, t0, t3, t13, t14, t15, t25, t26, t27]
      have hw : w64 ((d'.length : Int) + 1) = d'.length + 1 := w64_id (by omega) (by omega)
      refine ⟨r'.length, by simp [g2], d' ++ [q], r', by simp [g1], rfl, by rw [hw]; simp, hl2, ?_, fun id hid => ?_⟩
      · rw [List.getElem?_set_self hl2, hsn']
      · rw [List.getElem?_set_ne (by omega)]; exact hs2 id hid
end Go.Pi.M
namespace Go.Pi.M
open Go Go.Pi Go.Proofs Go.Sort
set_option maxRecDepth 10000

/-- More has been laid; what was there is there. -/
def Ext (H H' : List PObj) : Prop := H.length ≤ H'.length ∧ ∀ id, id < H.length → H'[id]? = H[id]?
theorem Ext.refl (H : List PObj) : Ext H H := ⟨Nat.le_refl _, fun _ _ => rfl⟩
theorem Ext.trans {A B C : List PObj} (h : Ext A B) (k : Ext B C) : Ext A C := ⟨Nat.le_trans h.1 k.1, fun id hid => (k.2 id (Nat.lt_of_lt_of_le hid h.1)).trans (h.2 id hid)⟩
theorem Ext.snoc (H : List PObj) (x : PObj) : Ext H (H ++ [x]) := ⟨by simp, fun id hid => List.getElem?_append_left hid⟩
theorem Ext.of {H H' : List PObj} (h : H' = H ∨ ∃ x, H' = H ++ [x]) : Ext H H' := by
  rcases h with rfl | ⟨x, rfl⟩
  · exact .refl _
  · exact .snoc _ _
theorem MAt.ext {H H' : List PObj} {a mid : Nat} {s : Space} {n : BitVec 64} {es : List (Pfx × BitVec 64 × Nat)} {clock : Nat} (h : MAt H a mid s n es clock) (k : Ext H H') : MAt H' a mid s n es clock :=
  h.move (k.2 a h.alt.1) (k.2 mid h.alt.2)
theorem rloads_len (m : RM) : m.loads.length ≤ m.l.length := by
  unfold RM.loads
  rw [List.length_map]
  have := merge_len m.l []
  simpa using this
theorem pfxs_cells' (l : List Pfx) : pfxs l = .slc l.isEmpty (l.map Pfx.pv) := rfl
theorem same_pfxs' (a b : List Pfx) (hl : a.length ≤ 1000000) (hb : b.length ≤ 1000000) : Pure Tryz.prog 30 [pfxs a, pfxs b] (bo (decide (a = b))) := same_pfxs_spec a b _ _ hl hb
theorem same_loads' (a b : List Load) (hl : a.length ≤ 1000000) (hb : b.length ≤ 1000000) : Pure Tryz.prog 29 [loads a, loads b] (bo (decide (a = b))) := same_loads_spec a b _ _ hl hb
theorem mover_len {s : Space} {es : List (Pfx × BitVec 64 × Nat)} (hl : es.length ≤ 25) : (mover s es).length ≤ 1000000 := by
  have h1 := addOver_len s (mloads es) ([], 0)
  have h2 := mloads_len es
  unfold mover
  rw [sortK_len]
  have h0 : ([] : Cnt).length = 0 := rfl
  simp only [h0] at h1
  simp only [keysP, entI, List.length_map]
  omega
section
variable {H : List PObj} {a mid clock : Nat} {s : Space} {n : BitVec 64} {es : List (Pfx × BitVec 64 × Nat)}
theorem mspace_at (h : MAt H a mid s n es clock) : Sum Tryz.prog 21 [.ptr a 0] H fun r H' => r = s.pv ∧ Ext H H' :=
  (mspace_spec h.obj).mono fun r H' ⟨h1, o, h2⟩ => ⟨h1, by rw [h2]; exact .snoc _ _⟩
theorem mtotal_at (h : MAt H a mid s n es clock) : Sum Tryz.prog 20 [.ptr a 0] H fun r H' => r = u n ∧ Ext H H' :=
  (mtotal_spec h.obj).mono fun r H' ⟨h1, h2⟩ => ⟨h1, by rw [h2]; exact .refl _⟩
theorem mweight_at (h : MAt H a mid s n es clock) (p : Pfx) (hp : p.ok) : Sum Tryz.prog 19 [.ptr a 0, p.pv] H fun r H' => r = u (sumMet s p es 0) ∧ Ext H H' :=
  (mweight_spec h.obj h.map h.nod h.births h.oks p hp).mono fun r H' ⟨h1, o, h2⟩ => ⟨h1, by rw [h2]; exact .snoc _ _⟩
theorem mloads_at (h : MAt H a mid s n es clock) : Sum Tryz.prog 17 [.ptr a 0] H fun r H' => r = loads (mloads es) ∧ Ext H H' :=
  (mloads_spec h).mono fun r H' ⟨h1, h2⟩ => ⟨h1, .of h2⟩
theorem mover_at (h : MAt H a mid s n es clock) (hl : es.length ≤ 25) : Sum Tryz.prog 18 [.ptr a 0] H fun r H' => r = pfxs (mover s es) ∧ Ext H H' := mover_spec h hl
end
theorem same_spec {H : List PObj} {a mid clock : Nat} {s : Space} {n : BitVec 64} {es : List (Pfx × BitVec 64 × Nat)} (h : MAt H a mid s n es clock) (hl : es.length ≤ 25) (m : RM) (p : Pfx) (hp : p.ok) (hm : m.l.length ≤ 1000) (hx : ∀ x ∈ m.l, x.p.ok)
    (e1 : s = m.s) (e2 : n = total m.l) (e3 : sumMet s p es 0#64 = m.weight p) (e4 : mloads es = m.loads) (e5 : mover s es = m.over) :
    Sum Tryz.prog 13 [.ptr a 0, m.pv, p.pv] H fun r H' => r = bo true ∧ Ext H H' := by
  refine Sum.run mixed is13 (by simp [n13]) ?_
  simp [c13, r13, rules, RM.pv, RM.cells, loads_strip, loads_one, Pfx.pv, Pfx.cells]
  refine callK_by (mspace_at h) ⟨_, H, rfl, .refl _⟩ ?_
  rintro _ H1 ⟨rfl, k1⟩
  have h1 := h.ext k1
  simp [rules, e1, loads_strip, loads_one, loads_cells, Space.pv, Space.cells]
  refine callK_by (mtotal_at h1) ⟨_, H1, rfl, .refl _⟩ ?_
  rintro _ H2 ⟨rfl, k2⟩
  have h2 := h1.ext k2
  simp [rules, loads_strip, loads_one, loads_cells]
  refine pureK_by (total_spec' m.l (by omega)) ?_
  simp [rules, e2]
  refine callK_by (mweight_at h2 p hp) ⟨_, H2, rfl, .refl _⟩ ?_
  rintro _ H3 ⟨rfl, k3⟩
  have h3 := h2.ext k3
  simp [rules, loads_strip, loads_one, loads_cells]
  refine pureK_by (rweight_spec m p (by omega) hp hx) ?_
  simp [rules, e3]
  refine callK_by (mloads_at h3) ⟨_, H3, rfl, .refl _⟩ ?_
  rintro _ H4 ⟨rfl, k4⟩
  have h4 := h3.ext k4
  simp [rules, loads_strip, loads_one, loads_cells]
  refine pureK_by (rloads_spec m (by omega)) ?_
  simp [rules, loads_strip]
  have hrl := rloads_len m
  refine pureK_by (same_loads' (mloads es) m.loads (by rw [e4]; omega) (by omega)) ?_
  simp [rules, e4]
  refine callK_by (mover_at h4 hl) ⟨_, H4, rfl, .refl _⟩ ?_
  rintro _ H5 ⟨rfl, k5⟩
  simp [rules, pfxs_strip, loads_strip, loads_one, loads_cells]
  refine pureK_by (rover_spec m (by omega) hx) ?_
  simp [rules, pfxs_strip]
  have hml := mover_len (s := s) hl
  refine pureK_by (same_pfxs' (mover s es) m.over hml (by rw [← e5]; exact hml)) ?_
  simp [rules, e5]
  exact (((k1.trans k2).trans k3).trans k4).trans k5
end Go.Pi.M
namespace Go.Pi.M
open Go Go.Pi Go.Proofs Go.Sort
set_option maxRecDepth 10000

theorem sortK_eq {α : Type} {cf : α → α → Int} (hO : Tot cf) (hz : ∀ x y, cf x y = 0 → x = y) {l l' : List α} (h : l'.Perm l) (hs : l'.Pairwise fun x y => (!(ltOf cf) y x) = true) : sortK cf l = l' := by
  have tr : ∀ a b c : α, (!(ltOf cf) b a) = true → (!(ltOf cf) c b) = true → (!(ltOf cf) c a) = true := by
    intro a b c h1 h2
    simp only [Bool.not_eq_true'] at *
    exact hO.swo.ntrans _ _ _ h2 h1
  have to : ∀ a b : α, ((!(ltOf cf) b a) || (!(ltOf cf) a b)) = true := by
    intro a b
    simp only [ltOf, Bool.or_eq_true, Bool.not_eq_true', decide_eq_false_iff_not]
    have := hO.anti a b
    omega
  refine List.Perm.eq_of_pairwise (le := fun x y => (!(ltOf cf) y x) = true) ?_ (List.pairwise_mergeSort tr to l) hs ((sortK_perm cf l).trans h.symm)
  intro a b _ _ h1 h2
  simp only [Bool.not_eq_true'] at h1 h2
  exact hO.parts hz _ _ h2 h1

theorem mput_nil {H : List PObj} (p : Pfx) (w : BitVec 64) : Sum Tryz.prog 8 [.v (.pointer none), p.pv, u w] H fun r H' => r = i 6 ∧ H' = H := by
  refine Sum.run mixed is8 (by simp [n8]) ?_
  simp [c8, r8, rules, Pfx.pv, Pfx.cells]
  refine callK_by made_nil ⟨_, _, rfl, rfl⟩ ?_
  rintro _ _ ⟨rfl, rfl⟩
  simp [rules]
theorem mjoin_nil {H : List PObj} (a : Nat) : Sum Tryz.prog 10 [.v (.pointer none), .ptr a 0] H fun r H' => r = i 6 ∧ H' = H := by
  refine Sum.run mixed is10 (by simp [n10]) ?_
  simp [c10, r10, rules]
  refine callK_by made_nil ⟨_, _, rfl, rfl⟩ ?_
  rintro _ _ ⟨rfl, rfl⟩
  simp [rules]
theorem mweight_nil {H : List PObj} (p : Pfx) : Sum Tryz.prog 19 [.v (.pointer none), p.pv] H fun r H' => r = u 0 ∧ H' = H := by
  refine Sum.run mixed is19 (by simp [n19]) ?_
  simp [c19, r19, rules, Pfx.pv, Pfx.cells]
  refine callK_by made_nil ⟨_, _, rfl, rfl⟩ ?_
  rintro _ _ ⟨rfl, rfl⟩
  simp [rules]

/-! Alive -/
def s1 : Space := ⟨1, ⟨1, 1, 16⟩, noDim⟩
def l1 : Pfx := leaf 167772161#64
def l2 : Pfx := leaf 167772162#64
def mid1 : Pfx := ⟨1, 0, ⟨1, 16, 720575940379279360#64, 0#64, []⟩, noKey⟩
def es0 : List (Pfx × BitVec 64 × Nat) := [(l1, 5#64, 0)]
def es1 : List (Pfx × BitVec 64 × Nat) := [(l1, 5#64, 0), (l2, 3#64, 1)]
def es2 : List (Pfx × BitVec 64 × Nat) := [(l1, 10#64, 0), (l2, 6#64, 1)]
theorem a_sound : s1.sound = true := by kernel_rfl
theorem a_nosound : (⟨0, noDim, noDim⟩ : Space).sound = false := by kernel_rfl
theorem a_e1 : putE s1 0#64 l1 5#64 = 0 := by kernel_rfl
theorem a_e2 : putE s1 5#64 l2 3#64 = 0 := by kernel_rfl
theorem a_e3 : putE s1 8#64 noPfx 1#64 = 1 := by kernel_rfl
theorem a_e4 : putE s1 8#64 (leaf 1#64) 4611686018427387904#64 = 13 := by kernel_rfl
theorem a_p1 : putS s1 0#64 [] 0 l1 5#64 = (5#64, es0, 1) := by kernel_rfl
theorem a_p2 : putS s1 5#64 es0 1 l2 3#64 = (8#64, es1, 2) := by kernel_rfl
theorem a_p3 : putS s1 8#64 es1 2 noPfx 1#64 = (8#64, es1, 2) := by kernel_rfl
theorem a_p4 : putS s1 8#64 es1 2 (leaf 1#64) 4611686018427387904#64 = (8#64, es1, 2) := by kernel_rfl
theorem a_sort : sortK Pfx.cmp (keysP (entW es1)) = [l1, l2] := by
  refine sortK_eq tot_pcmp (fun x y => pcmp_zero) (.refl _) ?_
  rw [List.pairwise_cons]
  refine ⟨fun x hx => ?_, by simp⟩
  rw [List.mem_singleton.1 hx]
  kernel_rfl
theorem a_loads : mloads es1 = [⟨l1, 5#64⟩, ⟨l2, 3#64⟩] := by
  unfold mloads
  rw [a_sort]
  kernel_rfl
theorem a_over : (mover s1 es1).length = 4 := by
  unfold mover
  rw [sortK_len, a_loads]
  kernel_rfl
theorem a_w1 : sumMet s1 mid1 es1 0#64 = 8#64 := by kernel_rfl
theorem a_w2 : sumMet s1 mid1 es2 0#64 = 16#64 := by kernel_rfl
theorem a_join : joinE s1 8#64 s1 8#64 = 0 := by kernel_rfl
theorem a_put : putAll s1 (mloads es1) (8#64, es1, 2) = (16#64, es2, 2) := by
  rw [a_loads]
  kernel_rfl
end Go.Pi.M
namespace Go.Pi.M
open Go Go.Pi Go.Proofs Go.Sort
set_option maxRecDepth 10000

theorem mput_at' {H : List PObj} {a mid clock clock' : Nat} {s : Space} {n n' : BitVec 64} {es es' : List (Pfx × BitVec 64 × Nat)} {e : Int} (h : MAt H a mid s n es clock) (p : Pfx) (hp : p.ok) (w : BitVec 64) (hl : es.length < 1000) (he : putE s n p w = e) (hs : putS s n es clock p w = (n', es', clock')) :
    Sum Tryz.prog 8 [.ptr a 0, p.pv, u w] H fun r H' => r = i e ∧ MAt H' a mid s n' es' clock' :=
  (mput_at h p hp w hl).mono fun r H' ⟨h1, h2⟩ => ⟨by rw [h1, he], by have := h2.1; rw [hs] at this; exact this⟩
theorem mput_ex {H : List PObj} {a mid clock clock' : Nat} {s : Space} {n n' : BitVec 64} {es es' : List (Pfx × BitVec 64 × Nat)} {e : Int} (h : MAt H a mid s n es clock) (p : Pfx) (hp : p.ok) (w : BitVec 64) (hl : es.length < 1000) (hs : putS s n es clock p w = (n', es', clock')) :
    ∃ r H', r = i e ∧ MAt H' a mid s n' es' clock' := ⟨_, _, rfl, by have := (putH_at h p hp w hl).1; rw [hs] at this; exact this⟩
theorem leaf_ok (x : BitVec 64) : (leaf x).ok := by simp [Pfx.ok, leaf, noKey]
theorem noPfx_ok : noPfx.ok := by simp [Pfx.ok, noPfx, noKey]
theorem a_j {H : List PObj} (h : MAt H 1 0 s1 8#64 es1 2) : Sum Tryz.prog 10 [.ptr 1 0, .ptr 1 0] H fun r H' => r = i 0 ∧ MAt H' 1 0 s1 16#64 es2 2 :=
  (mjoin_spec h h (by simp [es1])).mono fun r H' ⟨h1, _, _, x, hx, h2⟩ => by
    rw [a_join, if_pos rfl, a_put] at hx
    subst hx
    exact ⟨by rw [h1, a_join], h2⟩
theorem a_at2 : MAt [.map 2 (ents (entW es2)), .cells (modelCells s1 16#64 0)] 1 0 s1 16#64 es2 2 :=
  ⟨rfl, rfl, by simp [es2], by simp [es2], by intro e he; simp [es2] at he; rcases he with rfl | rfl <;> exact leaf_ok _, by simp [es2]⟩
def c5w : List PV := [i 0, i 0, i 1, i 32, u 720575944674246656#64, u 0#64, tx [], i 0, i 0, u 0#64, u 0#64, tx []]
theorem a_leaf : (leaf 167772161#64).pv = .agg c5w := by simp [leaf, Pfx.pv, Pfx.cells, noKey, c5w]
theorem a_idx : pidxSPV (loads [⟨l1, 5#64⟩, ⟨l2, 3#64⟩]) (i 0) 13 = some (.ept (c5w ++ [u 5#64]) 0) := by
  rw [loads_idx]
  have : elemAt (([⟨l1, 5#64⟩, ⟨l2, 3#64⟩] : List Load).map Load.pv) 0 = some (.agg (c5w ++ [u 5#64])) := by
    simp [elemAt, Load.pv, Load.cells, l1, leaf, noKey, c5w]
  rw [this]
  rfl
theorem alive_spec : Pure Tryz.prog 6 [] (bo true) := by
  refine Pure.of_sum0 ?_ (.v _) (by simp)
  refine Sum.run mixed is6 (by simp [n6]) ?_
  simp [c6, r6, rules]
  refine callK_by (new_spec s1 [] a_sound) ⟨_, _, rfl, rfl⟩ ?_
  rintro _ H1 ⟨rfl, hH1⟩
  have h1 : MAt H1 1 0 s1 0#64 [] 0 := by rw [hH1]; exact ⟨rfl, rfl, by simp, by simp, by simp, by simp⟩
  clear hH1
  simp [rules, q_bo]
  refine pureK_by (leaf_spec 167772161#64) ?_
  simp [rules, q_bo]
  refine callK_by (mput_at' h1 l1 (leaf_ok _) 5#64 (by simp) a_e1 a_p1) (mput_ex h1 l1 (leaf_ok _) 5#64 (by simp) a_p1) ?_
  rintro _ H2 ⟨rfl, h2⟩
  simp [rules, q_bo]
  refine pureK_by (leaf_spec 167772162#64) ?_
  simp [rules, q_bo]
  refine callK_by (mput_at' h2 l2 (leaf_ok _) 3#64 (by simp [es0]) a_e2 a_p2) (mput_ex h2 l2 (leaf_ok _) 3#64 (by simp [es0]) a_p2) ?_
  rintro _ H3 ⟨rfl, h3⟩
  simp [rules, q_bo]
  refine callK_by (mput_at' h3 noPfx noPfx_ok 1#64 (by simp [es1]) a_e3 a_p3) (mput_ex h3 noPfx noPfx_ok 1#64 (by simp [es1]) a_p3) ?_
  rintro _ H4 ⟨rfl, h4⟩
  simp [rules, q_bo]
  refine pureK_by (leaf_spec 1#64) ?_
  simp [rules, q_bo]
  refine callK_by (mput_at' h4 (leaf 1#64) (leaf_ok _) 4611686018427387904#64 (by simp [es1]) a_e4 a_p4) (mput_ex h4 (leaf 1#64) (leaf_ok _) 4611686018427387904#64 (by simp [es1]) a_p4) ?_
  rintro _ H5 ⟨rfl, h5⟩
  simp [rules, q_bo]
  refine callK_by (mloads_at h5) ⟨_, _, rfl, .refl _⟩ ?_
  rintro _ H6 ⟨rfl, k6⟩
  have h6 := h5.ext k6
  simp [rules, q_bo, loads_strip, a_loads, loads_len]
  refine callK_by (mover_at h6 (by simp [es1])) ⟨_, _, rfl, .refl _⟩ ?_
  rintro _ H7 ⟨rfl, k7⟩
  have h7 := h6.ext k7
  simp [rules, q_bo, pfxs_strip, pfxs_len, a_over]
  have hmid : mid1.ok := by simp [Pfx.ok, mid1, noKey]
  refine callK_by (mweight_at h7 mid1 hmid) ⟨_, _, rfl, .refl _⟩ ?_
  rintro _ H8 ⟨rfl, k8⟩
  have h8 := h7.ext k8
  simp [rules, q_bo, a_w1]
  refine callK_by (a_j h8) ⟨_, _, rfl, a_at2⟩ ?_
  rintro _ H9 ⟨rfl, h9⟩
  simp [rules, q_bo, loads_strip, a_idx, c5w]
  refine pureK_by (leaf_spec 167772161#64) ?_
  rw [a_leaf]
  simp [rules, q_bo, c5w]
  refine callK_by (mtotal_at h9) ⟨_, _, rfl, .refl _⟩ ?_
  rintro _ H10 ⟨rfl, k10⟩
  have h10 := h9.ext k10
  simp [rules, q_bo]
  refine callK_by (mweight_at h10 mid1 hmid) ⟨_, _, rfl, .refl _⟩ ?_
  rintro _ H11 ⟨rfl, k11⟩
  have h11 := h10.ext k11
  simp [rules, q_bo, a_w2]
  refine callK_by (mspace_at h11) ⟨_, _, rfl, .refl _⟩ ?_
  rintro _ H12 ⟨rfl, k12⟩
  have h12 := h11.ext k12
  simp [rules, q_bo, s1, Space.pv, Space.cells, noDim]
  refine callK_by (new_nil ⟨0, noDim, noDim⟩ H12 a_nosound) ⟨_, _, rfl, rfl⟩ ?_
  rintro _ H13 ⟨rfl, hH13⟩
  subst hH13
  simp [rules, q_bo]
  refine callK_by (mput_nil mid1 1#64) ⟨_, _, rfl, rfl⟩ ?_
  rintro _ _ ⟨rfl, rfl⟩
  simp [rules, q_bo]
  refine callK_by (mjoin_nil 1) ⟨_, _, rfl, rfl⟩ ?_
  rintro _ _ ⟨rfl, rfl⟩
  simp [rules, q_bo]
  refine callK_by (mweight_nil mid1) ⟨_, _, rfl, rfl⟩ ?_
  rintro _ _ ⟨rfl, rfl⟩
  simp [rules, q_bo]
end Go.Pi.M
