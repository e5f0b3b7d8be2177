import Derived.Test.YtcmkgbboldchbaaGreatDoorB3
import Derived.Shelf.SlSortCmp.NoneTotal
import Derived.Test.YtcmkgbboldchbaaGreatDoorA6
set_option linter.unusedSimpArgs false
set_option linter.unusedVariables false
namespace Go.Pi.M
open Go Go.Pi Go.Proofs
set_option maxRecDepth 10000

/-- A map's entries by prefix. -/
def ents (es : List (Pfx × PV × Nat)) : List (PV × PV × Nat) := es.map fun e => (e.1.pv, e.2.1, e.2.2)
def keyL (es : List (Pfx × PV × Nat)) : List (List PV) := es.map fun e => [e.1.pv]
theorem ents_mem {es : List (Pfx × PV × Nat)} {x : PV × PV × Nat} (h : x ∈ ents es) : ∃ e ∈ es, x = (e.1.pv, e.2.1, e.2.2) := by
  obtain ⟨e, he, rfl⟩ := List.mem_map.1 h; exact ⟨e, he, rfl⟩
theorem find_ents {es : List (Pfx × PV × Nat)} (hd : (es.map fun e => e.2.2).Nodup) {e : Pfx × PV × Nat} (he : e ∈ es) : (ents es).find? (fun x => x.2.2 == e.2.2) = some (e.1.pv, e.2.1, e.2.2) := by
  induction es with
  | nil => simp at he
  | cons a r ih =>
    simp only [List.map_cons, List.nodup_cons] at hd
    simp only [ents, List.map_cons, List.find?_cons]
    rcases List.mem_cons.1 he with rfl | he
    · simp
    · have : ¬ a.2.2 = e.2.2 := fun h => hd.1 (by rw [h]; exact List.mem_map_of_mem he)
      have h2 : (a.2.2 == e.2.2) = false := by simpa using this
      simp only [h2]
      exact ih hd.2 he
theorem ent_sub : ∀ (σ es : List (Pfx × PV × Nat)), (σ.map fun e => e.2.2).Nodup → (∀ e ∈ σ, e ∈ es) → ∃ R, es.Perm (σ ++ R)
  | [], es, _, _ => ⟨es, .refl _⟩
  | e :: σ, es, hn, hs => by
    simp only [List.map_cons, List.nodup_cons] at hn
    obtain ⟨l1, l2, rfl⟩ := List.append_of_mem (hs e (by simp))
    have hs' : ∀ x ∈ σ, x ∈ l1 ++ l2 := by
      intro x hx
      have h1 := hs x (by simp [hx])
      have h2 : x ≠ e := fun h => hn.1 (by rw [← h]; exact List.mem_map_of_mem (f := fun e : Pfx × PV × Nat => e.2.2) hx)
      simp only [List.mem_append, List.mem_cons] at h1 ⊢
      rcases h1 with h1 | h1 | h1
      · exact .inl h1
      · exact absurd h1 h2
      · exact .inr h1
    obtain ⟨R, hR⟩ := ent_sub σ (l1 ++ l2) hn.2 hs'
    exact ⟨R, List.perm_middle.trans (hR.cons e)⟩
theorem keys_iter {g n : Nat} {z : List Nat} {pc : PCode} {rs : List RV} (hf : FnIs Tryz.prog (z ++ pures) g n pc rs) (hpc : pc = c52) (hn : n = 14) (hrs : rs = [])
    {H1 : List PObj} {mid clock : Nat} {es : List (Pfx × PV × Nat)} (hm : H1[mid]? = some (.map clock (ents es))) (hd : (es.map fun e => e.2.2).Nodup) (hb : ∀ e ∈ es, e.2.2 < clock) :
    Iter Tryz.prog g [.ept [.map mid] 0] H1 [mid] (fun xs => ∃ σ, σ.Perm es ∧ xs = keyL σ) (fun pre => ∃ σ, (∀ e ∈ σ, e ∈ es) ∧ (σ.map fun e => e.2.2).Nodup ∧ pre = keyL σ) := by
  subst hpc; subst hn; subst hrs
  intro Y lid I X hlid hI hX h0 hround
  have hmid : mid < H1.length := (List.getElem?_eq_some_iff.1 hm).1
  refine SumY.run mixed hf (by simp) ?_
  simp [c52, rules, mrangePV, hm]
  refine pwp_loop mixed (fun m st => ∃ σ : List (Pfx × PV × Nat), (∀ e ∈ σ, e ∈ es) ∧ (σ.map fun e => e.2.2).Nodup ∧ m + σ.length = es.length ∧ st.t 0 = .yld lid ∧ st.t 5 = .ptr H1.length 0 ∧
    H1.length < st.H.length ∧ st.H[mid]? = some (.map clock (ents es)) ∧ st.H[H1.length]? = some (.miter (some mid) clock (σ.map fun e => e.2.2) clock) ∧ I (keyL σ) st.H) es.length
    ⟨[], by simp, by simp, by simp, by simp [rules], by simp [rules], by simp, (List.getElem?_append_left hmid).trans hm, by simp, hI [] H1 _ h0 (fun id hid => List.getElem?_append_left hid)⟩ ?_
  rintro m ⟨t, H⟩ ⟨σ, k1, k2, k3, t0, t5, kl, km, ki, kI⟩
  simp only at t0 t5 kl km ki kI
  simp [rules, t0, t5]
  refine ⟨⟨H1.length, rfl, .inr ⟨mid, clock, _, clock, clock, ents es, ki, km, fun _ hne => ?_⟩⟩, ?_⟩
  · cases es with
    | nil => simp [ents] at hne
    | cons e r => exact ⟨_, List.mem_cons_self, hb e (by simp)⟩
  rintro r H' ⟨id, hid, h⟩
  cases hid
  rcases h with ⟨s, l, st, h, _, _⟩ | ⟨m', since, seen, last, clock', es', h1, h2, h⟩
  · rw [ki] at h; cases h
  rw [ki] at h1; cases h1
  rw [km] at h2; cases h2
  obtain ⟨R, hR⟩ := ent_sub σ es k2 k1
  have hRn : ((σ ++ R).map fun e => e.2.2).Nodup := (hR.map _).nodup_iff.1 hd
  have hRl : es.length = σ.length + R.length := by rw [hR.length_eq]; simp
  rcases h with ⟨hall, rfl, rfl⟩ | ⟨e, he, hns, rfl, rfl⟩
  · have hR0 : R = [] := by
      cases R with
      | nil => rfl
      | cons x R =>
        have hx : x ∈ es := hR.mem_iff.2 (by simp)
        have h1 := hall (x.1.pv, x.2.1, x.2.2) (List.mem_map_of_mem (f := fun e : Pfx × PV × Nat => (e.1.pv, e.2.1, e.2.2)) hx) (hb x hx)
        rw [List.map_append, List.nodup_append] at hRn
        exact absurd rfl (hRn.2.2 _ h1 _ (by simp))
    rw [hR0, List.append_nil] at hR
    simp [rules, q_bo, t0, t5]
    exact ⟨Nat.le_of_lt kl, .inl km, .inl ⟨_, ⟨σ, hR.symm, rfl⟩, kI⟩⟩
  · obtain ⟨e, he', rfl⟩ := ents_mem he
    simp only at hns ⊢
    have hRp : 0 < R.length := by
      cases R with
      | nil =>
        rw [List.append_nil] at hR
        exact absurd (List.mem_map_of_mem (f := fun e : Pfx × PV × Nat => e.2.2) (hR.mem_iff.1 he')) hns
      | cons _ _ => simp
    have hne : mid ≠ H1.length := by omega
    have hset : (H.set H1.length (.miter (some mid) clock ((σ.map fun e => e.2.2) ++ [e.2.2]) clock))[H1.length]? = some (.miter (some mid) clock ((σ.map fun e => e.2.2) ++ [e.2.2]) clock) := List.getElem?_set_self kl
    have hset2 : (H.set H1.length (.miter (some mid) clock ((σ.map fun e => e.2.2) ++ [e.2.2]) clock))[mid]? = some (.map clock (ents es)) := by rw [List.getElem?_set_ne (Ne.symm hne)]; exact km
    have hcur : mcurPV (H.set H1.length (.miter (some mid) clock ((σ.map fun e => e.2.2) ++ [e.2.2]) clock)) (.ptr H1.length 0) = some (.tup [e.1.pv, e.2.1]) := by
      simp only [mcurPV, hset, hset2, if_true, List.getLast?_append, List.getLast?_singleton, Option.some_or, Option.bind_some, find_ents hd he', Option.map_some]
    have hS : (H.set H1.length (.miter (some mid) clock ((σ.map fun e => e.2.2) ++ [e.2.2]) clock)).length = H.length := List.length_set
    have hI' : I (keyL σ) (H.set H1.length (.miter (some mid) clock ((σ.map fun e => e.2.2) ++ [e.2.2]) clock)) := hI _ H _ kI (fun id hid => List.getElem?_set_ne (by omega))
    generalize H.set H1.length (.miter (some mid) clock ((σ.map fun e => e.2.2) ++ [e.2.2]) clock) = H2 at *
    have hk1 : ∀ x ∈ σ ++ [e], x ∈ es := by
      intro x hx
      rcases List.mem_append.1 hx with hx | hx
      · exact k1 x hx
      · rw [List.mem_singleton.1 hx]; exact he'
    have hn1 : ((σ ++ [e]).map fun e => e.2.2).Nodup := by
      rw [List.map_append, List.nodup_append]
      refine ⟨k2, by simp, fun x hx y hy => ?_⟩
      simp at hy
      rintro rfl
      rw [hy] at hx
      exact hns hx
    obtain ⟨hex, hY⟩ := hround (keyL σ) [e.1.pv] H2 ⟨σ ++ [e], hk1, hn1, by simp [keyL]⟩ hI' (by omega) (by intro id hid; rw [List.mem_singleton.1 hid, hset2, hm])
    simp [rules, q_bo, t0, t5, hcur, Pfx.pv, Pfx.cells]
    refine yldK_by hY hex ?_
    rintro r H3 ⟨hk, ⟨rfl, hI3⟩ | ⟨rfl, hX3⟩⟩
    · simp [rules, q_bo, t0, t5]
      have r1 : H3[mid]? = some (.map clock (ents es)) := by rw [hk.rd mid (by simp)]; exact hset2
      have r2 : H3[H1.length]? = some (.miter (some mid) clock ((σ ++ [e]).map fun e => e.2.2) clock) := by
        rw [hk.rest H1.length (Nat.le_refl _) (by omega), hset]; simp
      have r3 : keyL σ ++ [[e.1.pv]] = keyL (σ ++ [e]) := by simp [keyL]
      refine ⟨m - 1, by omega, σ ++ [e], fun a b c h => hk1 _ h, hn1, by simp; omega, ?_⟩
      exact ⟨by have := hk.len; omega, r1, r2, by rw [← r3]; exact hI3⟩
    · have := hk.len
      simp [rules, q_bo]
      exact ⟨by omega, .inr hX3, .inr hX3⟩
end Go.Pi.M
namespace Go.Pi.M
open Go Go.Pi Go.Proofs
set_option maxRecDepth 10000

def leaf (a : BitVec 64) : Pfx := ⟨0, 0, ⟨1, 32, a <<< 32, 0, []⟩, noKey⟩
theorem leaf_spec (a : BitVec 64) : Pure Tryz.prog 16 [u a] (leaf a).pv := by
  refine Pure.run mixed is16 (by simp [n16]) (pfx_free _) (by simp [frees]) ?_
  simp [c16, r16, rules, leaf, Pfx.pv, Pfx.cells, noKey]
theorem keys35_spec (mid : Nat) (H : List PObj) : Sum Tryz.prog 35 [.map mid] H fun r H' => r = .clo 52 [.ept [.map mid] 0] ∧ H' = H := by
  refine Sum.run mixed is35 (by simp [n35]) ?_
  simp [c35, r35, rules]
theorem keys38_spec (mid : Nat) (H : List PObj) : Sum Tryz.prog 38 [.map mid] H fun r H' => r = .clo 58 [.ept [.map mid] 0] ∧ H' = H := by
  refine Sum.run mixed is38 (by simp [n38]) ?_
  simp [c38, r38, rules]
theorem keyL_snoc {σ : List (Pfx × PV × Nat)} {pre : List (List PV)} {x : List PV} (h : pre ++ [x] = keyL σ) : ∃ σ' e, σ = σ' ++ [e] ∧ pre = keyL σ' ∧ x = [e.1.pv] := by
  rcases List.eq_nil_or_concat σ with rfl | ⟨σ', e, rfl⟩
  · simp [keyL] at h
  · refine ⟨σ', e, by simp, ?_⟩
    simp only [keyL, List.concat_eq_append, List.map_append, List.map_cons, List.map_nil] at h ⊢
    have := List.append_inj' h rfl
    exact ⟨this.1, by simpa using this.2⟩
theorem keyL_map {σ τ : List (Pfx × PV × Nat)} (h : keyL σ = keyL τ) : σ.map (fun e => e.1.pv) = τ.map (fun e => e.1.pv) := by
  have h2 : ∀ l : List (Pfx × PV × Nat), l.map (fun e => e.1.pv) = (keyL l).flatten := by
    intro l; induction l with
    | nil => rfl
    | cons a r ih => simp only [List.map_cons, keyL, List.flatten_cons, List.singleton_append] at ih ⊢; rw [ih]
  rw [h2, h2, h]
def keysOf (σ : List (Pfx × PV × Nat)) : List PV := σ.map fun e => e.1.pv
theorem objCells_set {H : List PObj} {id : Nat} {c : List PV} (h : id < H.length) : objCells (H.set id (.cells c)) id = some c := by simp [objCells, h]
theorem keysOf_agg {σ : List (Pfx × PV × Nat)} : ∀ x ∈ keysOf σ, x.cells.length = 12 := by
  intro x hx
  obtain ⟨e, _, rfl⟩ := List.mem_map.1 hx
  rfl
theorem appendSeq_spec {g n : Nat} {z : List Nat} {pc : PCode} {rs : List RV} (hf : FnIs Tryz.prog (z ++ pures) g n pc rs) (hpc : pc = c52) (hn : n = 14) (hrs : rs = [])
    {H : List PObj} {mid clock : Nat} {es : List (Pfx × PV × Nat)} (hm : H[mid]? = some (.map clock (ents es))) (hd : (es.map fun e => e.2.2).Nodup) (hb : ∀ e ∈ es, e.2.2 < clock) (hl : es.length ≤ 1000000) :
    Sum Tryz.prog 69 [.slc true [], .clo g [.ept [.map mid] 0]] H fun r H' => (∃ σ : List (Pfx × PV × Nat), σ.Perm es ∧ r = .slc σ.isEmpty (keysOf σ)) ∧ H.length ≤ H'.length ∧ ∀ id, id < H.length → H'[id]? = H[id]? := by
  have hmid : mid < H.length := (List.getElem?_eq_some_iff.1 hm).1
  refine Sum.run mixed is69 (by simp [n69]) ?_
  simp [c69, r69, rules]
  generalize hT : (upd _ 6 _ : Nat → PV) = T
  have t2 : T 2 = .ptr H.length 0 := by rw [← hT]; simp [rules]
  have t6 : T 6 = .clo g [.ept [.map mid] 0] := by rw [← hT]; simp [rules]
  clear hT
  have hm1 : (H ++ [PObj.cells [.slc true []]])[mid]? = some (.map clock (ents es)) := (List.getElem?_append_left hmid).trans hm
  refine pwp_rangef (g := g) (cap := [.ept [.map mid] 0]) (rd := [mid]) mixed rfl (by simp [rules, t6]) (by simp; omega) (fun r => keys_iter hf hpc hn hrs ((List.getElem?_append_left (by simp; omega)).trans hm1) hd hb)
    (fun pre x ⟨σ, _, _, h⟩ => by obtain ⟨_, _, _, _, rfl⟩ := keyL_snoc h; rfl)
    (fun pre H' => (∃ σ, pre = keyL σ ∧ (∀ e ∈ σ, e ∈ es) ∧ (σ.map fun e => e.2.2).Nodup ∧ H'[H.length]? = some (.cells [.slc true (keysOf σ)])) ∧ ∀ id, id < H.length → H'[id]? = H[id]?) (fun _ _ => False)
    (fun pre H' H'' hh hs => by obtain ⟨⟨σ, h1, h2, h3, h4⟩, h5⟩ := hh; exact ⟨⟨σ, h1, h2, h3, by rw [hs _ (by simp)]; exact h4⟩, fun id hid => by rw [hs id (by simp; omega)]; exact h5 id hid⟩) (fun _ _ _ h _ => h)
    ⟨⟨[], rfl, by simp, by simp, by simp [keysOf]⟩, fun id hid => List.getElem?_append_left hid⟩ ?_ ?_ ?_ (fun _ _ h => h.elim)
  · rintro pre x H' ⟨σ, s1, s2, s3⟩ ⟨⟨τ, h1, h2, h3, h4⟩, h5⟩ hlt hrd
    obtain ⟨σ', e, rfl, hpre, rfl⟩ := keyL_snoc s3
    have hk : keysOf τ = keysOf σ' := keyL_map (h1.symm.trans hpre)
    rw [hk] at h4
    have hlt' : H.length < H'.length := (List.getElem?_eq_some_iff.1 h4).1
    have ho : objCells H' H.length = some [.slc true (keysOf σ')] := by simp [objCells, h4]
    obtain ⟨R, hR⟩ := ent_sub (σ' ++ [e]) es s2 s1
    have hle : σ'.length + 1 ≤ es.length := by rw [hR.length_eq]; simp
    have hkl : (keysOf σ').length = σ'.length := by simp [keysOf]
    have h9 : ((keysOf σ').length + 1) * 112 ≤ 140737488355328 ∧ (keysOf σ').length + 1 ≤ 9223372036854775807 := by omega
    have hag : (∀ x, x ∈ keysOf σ' → x.cells.length = 12) = True := eq_true (@keysOf_agg σ')
    have hs' : ∀ o : PObj, Keep [mid] (H.length + 1 + 1) H' (H'.set H.length o) := fun o => ⟨by simp, fun id h1 _ => List.getElem?_set_ne (by omega), fun id hid => by rw [List.mem_singleton.1 hid]; exact List.getElem?_set_ne (by omega)⟩
    simp [rules, updL, t2, ho, objCells_set, hlt', h9, hag, Pfx.pv, Pfx.cells]
    refine ⟨hs' _, ⟨σ' ++ [e], ?_, fun a b c h => s1 _ h, by simpa using s2, ?_⟩, fun id hid => ?_⟩
    · rw [hpre]; simp [keyL, Pfx.pv, Pfx.cells]
    · simp [keysOf, Pfx.pv, Pfx.cells]
    · rw [List.getElem?_set_ne (by omega)]; exact h5 id hid
  · rintro pre x H' ⟨σ, s1, s2, s3⟩ ⟨⟨τ, h1, h2, h3, h4⟩, h5⟩ hlt hrd
    have hlt' : H.length < H'.length := (List.getElem?_eq_some_iff.1 h4).1
    refine ⟨H'.set H.length (.cells [.slc true (keysOf σ)]), ⟨by simp, fun id h1 _ => List.getElem?_set_ne (by simp at h1; omega), fun id hid => by rw [List.mem_singleton.1 hid]; exact List.getElem?_set_ne (by omega)⟩, ⟨σ, s3, s1, s2, List.getElem?_set_self hlt'⟩, fun id hid => ?_⟩
    rw [List.getElem?_set_ne (by omega)]; exact h5 id hid
  · rintro xs H' ⟨σ, hp, rfl⟩ ⟨⟨τ, h1, h2, h3, h4⟩, h5⟩ hlt
    have hk := keyL_map h1
    have ho : objCells H' H.length = some [.slc true (keysOf τ)] := by simp [objCells, h4]
    simp [rules, t2, ho]
    refine ⟨⟨σ, hp, ?_⟩, by simp at hlt; omega, h5⟩
    have : keysOf τ = keysOf σ := hk.symm
    rw [this]
    cases σ <;> simp [PV.strip, keysOf]
end Go.Pi.M
namespace Go.Pi.M
open Go Go.Pi Go.Proofs
set_option maxRecDepth 10000

theorem slc_keys_strip {o : Bool} {σ : List (Pfx × PV × Nat)} : (PV.slc o (keysOf σ)).strip = .slc (o && σ.isEmpty) (keysOf σ) := by cases σ <;> simp [PV.strip, keysOf]
theorem collect_spec {g n : Nat} {z : List Nat} {pc : PCode} {rs : List RV} (hf : FnIs Tryz.prog (z ++ pures) g n pc rs) (hpc : pc = c52) (hn : n = 14) (hrs : rs = [])
    {H : List PObj} {mid clock : Nat} {es : List (Pfx × PV × Nat)} (hm : H[mid]? = some (.map clock (ents es))) (hd : (es.map fun e => e.2.2).Nodup) (hb : ∀ e ∈ es, e.2.2 < clock) (hl : es.length ≤ 1000000) :
    Sum Tryz.prog 50 [.clo g [.ept [.map mid] 0]] H fun r H' => (∃ σ : List (Pfx × PV × Nat), σ.Perm es ∧ r = .slc σ.isEmpty (keysOf σ)) ∧ H.length ≤ H'.length ∧ ∀ id, id < H.length → H'[id]? = H[id]? := by
  refine Sum.run mixed is50 (by simp [n50]) ?_
  simp [c50, r50, rules]
  refine callK_by (appendSeq_spec hf hpc hn hrs hm hd hb hl) ⟨_, H, ⟨es, .refl _, rfl⟩, Nat.le_refl _, fun _ _ => rfl⟩ ?_
  rintro _ H' ⟨⟨σ, hp, rfl⟩, h1, h2⟩
  simp [rules, slc_keys_strip]
  exact ⟨⟨σ, hp, by cases σ <;> simp⟩, h1, h2⟩
end Go.Pi.M
namespace Go.Pi.M
open Go Go.Pi Go.Proofs
set_option maxRecDepth 10000

def modelCells (s : Space) (n : BitVec 64) (mid : Nat) : List PV := [i s.n, i s.d0.kind, i s.d0.side, i s.d0.step, i s.d1.kind, i s.d1.side, i s.d1.step, u n, .map mid]
theorem made_spec {H : List PObj} {a mid : Nat} {s : Space} {n : BitVec 64} (h : objCells H a = some (modelCells s n mid)) : Sum Tryz.prog 22 [.ptr a 0] H fun r H' => r = bo true ∧ H' = H := by
  refine Sum.run mixed is22 (by simp [n22]) ?_
  simp [c22, r22, rules, h, modelCells, q_bo]
theorem made_nil {H : List PObj} : Sum Tryz.prog 22 [.v (.pointer none)] H fun r H' => r = bo false ∧ H' = H := by
  refine Sum.run mixed is22 (by simp [n22]) ?_
  simp [c22, r22, rules, q_nil0, q_bo]
theorem mtotal_spec {H : List PObj} {a mid : Nat} {s : Space} {n : BitVec 64} (h : objCells H a = some (modelCells s n mid)) : Sum Tryz.prog 20 [.ptr a 0] H fun r H' => r = u n ∧ H' = H := by
  refine Sum.run mixed is20 (by simp [n20]) ?_
  simp [c20, r20, rules]
  refine callK_by (made_spec h) ⟨_, _, rfl, rfl⟩ ?_
  rintro _ _ ⟨rfl, rfl⟩
  simp [rules, h, modelCells]
theorem objCells_lt {H : List PObj} {a : Nat} {cs : List PV} (h : objCells H a = some cs) : a < H.length := by
  unfold objCells at h
  split at h
  · rename_i e; exact (List.getElem?_eq_some_iff.1 e).1
  · cases h
theorem mspace_spec {H : List PObj} {a mid : Nat} {s : Space} {n : BitVec 64} (h : objCells H a = some (modelCells s n mid)) : Sum Tryz.prog 21 [.ptr a 0] H fun r H' => r = s.pv ∧ ∃ o, H' = H ++ [o] := by
  refine Sum.run mixed is21 (by simp [n21]) ?_
  have hlt := objCells_lt h
  have h' : objCells (H ++ [PObj.cells [i 0, i 0, i 0, i 0, i 0, i 0, i 0]]) a = some (modelCells s n mid) := by rw [h_lt hlt]; exact h
  simp [c21, r21, rules]
  refine callK_by (made_spec h') ⟨_, _, rfl, rfl⟩ ?_
  rintro _ _ ⟨rfl, rfl⟩
  simp [rules, h', modelCells, Space.pv, Space.cells]
end Go.Pi.M
namespace Go.Pi.M
open Go Go.Pi Go.Proofs
set_option maxRecDepth 10000

def kP : Bool × List Nat := (true, [1, 1, 1, 1, 1, 1, 2, 1, 1, 1, 1, 2])
theorem keyEq_pfx (p q : Pfx) : Go.Pi.keyEq kP p.pv q.pv = some (decide (p = q)) := by
  have h : Go.Pi.keyEq kP p.pv q.pv = eqCells [1, 1, 1, 1, 1, 1, 2, 1, 1, 1, 1, 2] p.cells q.cells := rfl
  rw [h]
  simp [Pfx.cells, e_nil, e_i, e_u, e_x, pfxEq]
theorem findK_pfx (p : Pfx) : ∀ es : List (Pfx × PV × Nat), findK kP p.pv (ents es) = some (es.findIdx? fun e => decide (p = e.1))
  | [] => rfl
  | e :: es => by
    have ih := findK_pfx p es
    have h : ents (e :: es) = (e.1.pv, e.2.1, e.2.2) :: ents es := rfl
    rw [h, findK]
    simp only [keyEq_pfx, Option.bind_some, List.findIdx?_cons, ih, Option.map_some]
    by_cases g : p = e.1
    · simp [g]
    · simp [g]
/-- A model's weights by prefix, with their birth marks. -/
def entW (es : List (Pfx × BitVec 64 × Nat)) : List (Pfx × PV × Nat) := es.map fun e => (e.1, u e.2.1, e.2.2)
def wOf (p : Pfx) (es : List (Pfx × BitVec 64 × Nat)) : BitVec 64 := match es.find? fun e => decide (p = e.1) with | some e => e.2.1 | none => 0
theorem findIdx_entW (p : Pfx) (es : List (Pfx × BitVec 64 × Nat)) : (entW es).findIdx? (fun e => decide (p = e.1)) = es.findIdx? fun e => decide (p = e.1) := by
  unfold entW
  rw [List.findIdx?_map]
  rfl
theorem look_pfx {H : List PObj} {mid clock : Nat} {es : List (Pfx × BitVec 64 × Nat)} (hm : H[mid]? = some (.map clock (ents (entW es)))) (p : Pfx) :
    lookPV H kP (u 0) false (.map mid) p.pv = some (u (wOf p es)) := by
  simp only [lookPV, mapOf, hm, Option.bind_some, keyEq_pfx, Option.isSome_some, if_true, findK_pfx, findIdx_entW, Option.map_some, Bool.false_eq_true, if_false]
  unfold wOf
  cases h : es.findIdx? fun e => decide (p = e.1) with
  | none =>
    have : (es.find? fun e => decide (p = e.1)) = none := by
      rw [List.findIdx?_eq_none_iff] at h
      rw [List.find?_eq_none]
      intro x hx
      simpa using h x hx
    simp [this, v_su]
  | some k =>
    rw [List.findIdx?_eq_some_iff_getElem] at h
    obtain ⟨hk, h1, h2⟩ := h
    have : (es.find? fun e => decide (p = e.1)) = some es[k] := by
      rw [List.find?_eq_some_iff_getElem]
      refine ⟨h1, k, hk, rfl, fun j hj => ?_⟩
      simpa using h2 j hj
    simp [this, ents, entW, List.getElem?_eq_getElem hk, v_su]
end Go.Pi.M
namespace Go.Pi.M
open Go Go.Pi Go.Proofs
set_option maxRecDepth 10000

theorem stripAll_pfx (p : Pfx) : stripAll p.pv = p.pv := by simp [stripAll, Pfx.pv, Pfx.cells, v_si, v_su, v_sx]
theorem elemOK_pfx (p : Pfx) : elemOK p.pv = true := by simp [elemOK, Pfx.pv, Pfx.cells, storable, PV.cells, v_oi, v_ou, v_ox]
theorem ents_len (es : List (Pfx × PV × Nat)) : (ents es).length = es.length := by simp [ents]
theorem ents_get (es : List (Pfx × PV × Nat)) (k : Nat) : (ents es)[k]? = (es[k]?).map fun e => (e.1.pv, e.2.1, e.2.2) := by simp [ents]
theorem mentry_hit {H : List PObj} {mid clock : Nat} {es : List (Pfx × PV × Nat)} (hm : H[mid]? = some (.map clock (ents es))) {p : Pfx} {k : Nat} {e : Pfx × PV × Nat}
    (hk : es.findIdx? (fun e => decide (p = e.1)) = some k) (he : es[k]? = some e) : mentryPV H kP (u 0) (.map mid) p.pv = some (.tup [e.2.1, i e.2.2], H) := by
  have hp : p = e.1 := by
    rw [List.findIdx?_eq_some_iff_getElem] at hk
    obtain ⟨h1, h2, _⟩ := hk
    rw [List.getElem?_eq_getElem h1] at he
    cases he
    simpa using h2
  have hset : (ents es).set k (p.pv, e.2) = ents es := by
    apply List.ext_getElem?
    intro j
    rw [List.getElem?_set]
    split
    · rename_i hj
      subst hj
      have hl : k < (ents es).length := by rw [ents_len]; exact (List.getElem?_eq_some_iff.1 he).1
      rw [if_pos hl, ents_get, he, hp]; rfl
    · rfl
  have hH : H.set mid (.map clock (ents es)) = H := by
    apply List.ext_getElem?
    intro j
    rw [List.getElem?_set]
    split
    · rename_i hj; subst hj
      rw [if_pos (List.getElem?_eq_some_iff.1 hm).1, hm]
    · rfl
  simp only [mentryPV, hm, elemOK_pfx, keyEq_pfx, Option.isSome_some, Bool.and_self, if_true, findK_pfx, hk, Option.bind_some, ents_get, he, Option.map_some, stripAll_pfx]
  have hset' : (ents es).set k (p.pv, e.2.1, e.2.2) = ents es := hset
  rw [hset', hH]
  rfl
theorem mentry_miss {H : List PObj} {mid clock : Nat} {es : List (Pfx × PV × Nat)} (hm : H[mid]? = some (.map clock (ents es))) {p : Pfx}
    (hk : es.findIdx? (fun e => decide (p = e.1)) = none) : mentryPV H kP (u 0) (.map mid) p.pv = some (.tup [u 0, i clock], H.set mid (.map (clock + 1) (ents (es ++ [(p, u 0, clock)])))) := by
  simp only [mentryPV, hm, elemOK_pfx, keyEq_pfx, Option.isSome_some, Bool.and_self, if_true, findK_pfx, hk, Option.bind_some, stripAll_pfx]
  simp [ents]; rfl
theorem mstore_at {H : List PObj} {mid clock : Nat} {es : List (Pfx × PV × Nat)} (hm : H[mid]? = some (.map clock (ents es))) (hd : (es.map fun e => e.2.2).Nodup) {k : Nat} {e : Pfx × PV × Nat} (he : es[k]? = some e) (v : BitVec 64) :
    mstorePV H (.map mid) (i e.2.2) (u v) = some (H.set mid (.map clock (ents (es.set k (e.1, u v, e.2.2))))) := by
  have hf : (ents es).findIdx? (fun x => ((x.2.2 : Nat) : Int) == (e.2.2 : Int)) = some k := by
    rw [List.findIdx?_eq_some_iff_getElem]
    have hl := (List.getElem?_eq_some_iff.1 he).1
    have hg := (List.getElem?_eq_some_iff.1 he).2
    refine ⟨by rw [ents_len]; exact hl, by simp [ents, hg], fun j hj => ?_⟩
    have hj' : j < es.length := by omega
    have : ¬ es[j].2.2 = e.2.2 := by
      intro h
      have := (List.pairwise_iff_getElem.1 hd) j k (by simpa using hj') (by simpa using hl) hj
      apply this
      simp only [List.getElem_map, hg, h]
    simp only [ents, List.getElem_map, beq_iff_eq]
    omega
  have hs : (ents es).set k (e.1.pv, stripAll (u v), e.2.2) = ents (es.set k (e.1, u v, e.2.2)) := by
    unfold ents
    rw [List.map_set]
    rfl
  have h1 : mstorePV H (.map mid) (i e.2.2) (u v) = ((ents es).findIdx? fun x => ((x.2.2 : Nat) : Int) == (e.2.2 : Int)).bind fun j => ((ents es)[j]?).map fun x => H.set mid (.map clock ((ents es).set j (x.1, stripAll (u v), x.2.2))) := by
    simp only [mstorePV, i, hm]
    rfl
  rw [h1, hf, Option.bind_some, ents_get, he]
  simp only [Option.map_some, hs]
end Go.Pi.M
namespace Go.Pi.M
open Go Go.Pi Go.Proofs
set_option maxRecDepth 10000

def addW (p : Pfx) (w : BitVec 64) (es : List (Pfx × BitVec 64 × Nat)) (clock : Nat) : List (Pfx × BitVec 64 × Nat) × Nat :=
  match es.findIdx? fun e => decide (p = e.1) with
  | some k => match es[k]? with
    | some e => (es.set k (e.1, e.2.1 + w, e.2.2), clock)
    | none => (es, clock)
  | none => (es ++ [(p, w, clock)], clock + 1)
def putE (s : Space) (n : BitVec 64) (p : Pfx) (w : BitVec 64) : Int :=
  if s.right p = false ∨ 0 < w64 (p.a0 + p.a1) then 1 else if (room n).toNat < w.toNat then 13 else 0
theorem r_entS {P : Cx} {os : List POp} {K : St → Prop} {d : Option Nat} {s : St} {r : PV × List PObj} : entK P os K d s (some r) = pwpOps P os K ((St.mk s.t r.2).set d r.1) := by simp [entK]
theorem entW_set {es : List (Pfx × BitVec 64 × Nat)} {k : Nat} {e : Pfx × BitVec 64 × Nat} : entW (es.set k e) = (entW es).set k (e.1, u e.2.1, e.2.2) := by unfold entW; rw [List.map_set]
theorem entW_get {es : List (Pfx × BitVec 64 × Nat)} {k : Nat} : (entW es)[k]? = (es[k]?).map fun e => (e.1, u e.2.1, e.2.2) := by simp [entW]
theorem entW_births {es : List (Pfx × BitVec 64 × Nat)} : (entW es).map (fun e => e.2.2) = es.map fun e => e.2.2 := by simp [entW]
theorem entW_snoc {es : List (Pfx × BitVec 64 × Nat)} {e : Pfx × BitVec 64 × Nat} : entW (es ++ [e]) = entW es ++ [(e.1, u e.2.1, e.2.2)] := by simp [entW]
/-- What a map's '+=' does. -/
theorem put_map {H : List PObj} {mid clock : Nat} {es : List (Pfx × BitVec 64 × Nat)} (hm : H[mid]? = some (.map clock (ents (entW es)))) (hd : (es.map fun e => e.2.2).Nodup) (hb : ∀ e ∈ es, e.2.2 < clock) (p : Pfx) (w : BitVec 64) :
    ∃ (v : PV) (b : Int) (H1 : List PObj), mentryPV H kP (u 0) (.map mid) p.pv = some (.tup [v, i b], H1) ∧ mstorePV H1 (.map mid) (i b) (u (wOf p es + w)) = some (H.set mid (.map (addW p w es clock).2 (ents (entW (addW p w es clock).1)))) := by
  have hlt := (List.getElem?_eq_some_iff.1 hm).1
  cases hk : es.findIdx? fun e => decide (p = e.1) with
  | some k =>
    have hk' := hk
    rw [List.findIdx?_eq_some_iff_getElem] at hk'
    obtain ⟨h1, h2, h3⟩ := hk'
    have he : es[k]? = some es[k] := List.getElem?_eq_getElem h1
    have hw : wOf p es = es[k].2.1 := by
      have : (es.find? fun e => decide (p = e.1)) = some es[k] := by
        rw [List.find?_eq_some_iff_getElem]
        exact ⟨h2, k, h1, rfl, fun j hj => by simpa using h3 j hj⟩
      unfold wOf; rw [this]
    have ha : addW p w es clock = (es.set k (es[k].1, es[k].2.1 + w, es[k].2.2), clock) := by unfold addW; rw [hk]; simp only [he]
    have he' : (entW es)[k]? = some (es[k].1, u es[k].2.1, es[k].2.2) := by rw [entW_get, he]; rfl
    refine ⟨_, _, H, mentry_hit hm (by rw [findIdx_entW]; exact hk) he', ?_⟩
    rw [mstore_at hm (by rw [entW_births]; exact hd) he', ha, hw, entW_set]
  | none =>
    have hw : wOf p es = 0 := by
      have : (es.find? fun e => decide (p = e.1)) = none := by
        rw [List.findIdx?_eq_none_iff] at hk
        rw [List.find?_eq_none]
        intro x hx; simpa using hk x hx
      unfold wOf; rw [this]
    have ha : addW p w es clock = (es ++ [(p, w, clock)], clock + 1) := by unfold addW; rw [hk]
    refine ⟨_, _, _, mentry_miss hm (by rw [findIdx_entW]; exact hk), ?_⟩
    have hm2 : (H.set mid (.map (clock + 1) (ents (entW es ++ [(p, u 0, clock)]))))[mid]? = some (.map (clock + 1) (ents (entW es ++ [(p, u 0, clock)]))) := List.getElem?_set_self hlt
    have hn2 : ((entW es ++ [(p, u 0, clock)]).map fun e => e.2.2).Nodup := by
      rw [List.map_append, entW_births, List.nodup_append]
      refine ⟨hd, by simp, fun x hx y hy => ?_⟩
      obtain ⟨e, he, rfl⟩ := List.mem_map.1 hx
      have := hb e he
      simp at hy; omega
    have he2 : (entW es ++ [(p, u 0, clock)])[es.length]? = some (p, u 0, clock) := by
      have : (entW es).length = es.length := by simp [entW]
      rw [← this]; simp
    rw [mstore_at hm2 hn2 he2, List.set_set, ha, hw, entW_snoc]
    have : (entW es ++ [(p, u 0, clock)]).set es.length (p, u (0 + w), clock) = entW es ++ [(p, u w, clock)] := by
      have : (entW es).length = es.length := by simp [entW]
      rw [← this]; simp
    simp only [this]
theorem keys_const : (true, [1, 1, 1, 1, 1, 1, 2, 1, 1, 1, 1, 2]) = kP := rfl
theorem mput_spec {H : List PObj} {a mid clock : Nat} {s : Space} {n : BitVec 64} {es : List (Pfx × BitVec 64 × Nat)} (h : objCells H a = some (modelCells s n mid)) (hm : H[mid]? = some (.map clock (ents (entW es))))
    (hd : (es.map fun e => e.2.2).Nodup) (hb : ∀ e ∈ es, e.2.2 < clock) (p : Pfx) (hp : p.ok) (w : BitVec 64) :
    Sum Tryz.prog 8 [.ptr a 0, p.pv, u w] H fun r H' => r = i (putE s n p w) ∧ H' = if putE s n p w = 0 then (H.set mid (.map (addW p w es clock).2 (ents (entW (addW p w es clock).1)))).set a (.cells (modelCells s (n + w) mid)) else H := by
  have hne : mid ≠ a := by
    rintro rfl
    simp [objCells, hm] at h
  refine Sum.run mixed is8 (by simp [n8]) ?_
  simp [c8, r8, rules, Pfx.pv, Pfx.cells]
  refine callK_by (made_spec h) ⟨_, _, rfl, rfl⟩ ?_
  rintro _ _ ⟨rfl, rfl⟩
  simp [rules, h, modelCells]
  refine pureK_by (right_spec s p hp) ?_
  cases e : s.right p
  · simp [rules, putE, e]
  simp [rules, h, modelCells]
  refine pureK_by (height_spec s p hp) ?_
  rw [if_pos e]
  by_cases g1 : 0 < w64 (p.a0 + p.a1)
  · simp [rules, putE, g1]
  have hpe : putE s n p w = if (room n).toNat < w.toNat then 13 else 0 := by
    unfold putE; rw [if_neg (by simp [e]; omega)]
  obtain ⟨X, hX⟩ : ∃ X, room n = X := ⟨_, rfl⟩
  rw [hX] at hpe
  have hv : binPV .sub (u 4611686018427387904#64) (u n) = some (u X) := by rw [v_room, hX]
  clear hX
  by_cases g2 : X.toNat < w.toNat
  · rw [if_pos g2] at hpe
    rw [hpe]
    simp [hv, rules, g1, g2, h, modelCells]
  · rw [if_neg g2] at hpe
    rw [hpe]
    obtain ⟨v, b, H1, m1, m2⟩ := put_map hm hd hb p w
    have hl := look_pfx hm p
    simp only [Pfx.pv, Pfx.cells, kP, BitVec.ofNat_eq_ofNat] at m1 hl
    generalize hH2 : List.set _ mid (PObj.map (addW p w es clock).2 (ents (entW (addW p w es clock).1))) = H2 at m2 ⊢
    have h2 : objCells H2 a = some (modelCells s n mid) := by
      rw [← hH2]
      unfold objCells at h ⊢
      rw [List.getElem?_set_ne hne]; exact h
    simp [hv, rules, g1, g2, h, modelCells, hl, m1, m2, h2, r_entS]
end Go.Pi.M
namespace Go.Pi.M
open Go Go.Pi Go.Proofs
set_option maxRecDepth 10000

theorem new_spec (s : Space) (H : List PObj) (hs : s.sound = true) : Sum Tryz.prog 4 [s.pv] H fun r H' => r = .ptr (H.length + 1) 0 ∧ H' = H ++ [.map 0 [], .cells (modelCells s 0 H.length)] := by
  refine Sum.run mixed is4 (by simp [n4]) ?_
  simp [c4, r4, rules, Space.pv, Space.cells]
  refine pureK_by (sound_spec s) ?_
  rw [hs]
  simp [rules, modelCells]
theorem new_nil (s : Space) (H : List PObj) (hs : s.sound = false) : Sum Tryz.prog 4 [s.pv] H fun r H' => r = .v (.pointer none) ∧ H' = H := by
  refine Sum.run mixed is4 (by simp [n4]) ?_
  simp [c4, r4, rules, Space.pv, Space.cells]
  refine pureK_by (sound_spec s) ?_
  rw [hs]
  simp [rules]
end Go.Pi.M
namespace Go.Pi.M
open Go Go.Pi Go.Proofs
set_option maxRecDepth 10000

/-- What the weights of a model's map come to, in the order in which they are met. -/
def sumMet (s : Space) (p : Pfx) : List (Pfx × BitVec 64 × Nat) → BitVec 64 → BitVec 64
  | [], a => a
  | e :: r, a => sumMet s p r (if s.over p e.1 = true then a + e.2.1 else a)
theorem sumMet_snoc (s : Space) (p : Pfx) : ∀ (l : List (Pfx × BitVec 64 × Nat)) (e : Pfx × BitVec 64 × Nat) (a : BitVec 64), sumMet s p (l ++ [e]) a = if s.over p e.1 = true then sumMet s p l a + e.2.1 else sumMet s p l a
  | [], e, a => rfl
  | x :: l, e, a => by simp only [List.cons_append, sumMet, sumMet_snoc s p l]
theorem sumMet_perm {s : Space} {p : Pfx} {l r : List (Pfx × BitVec 64 × Nat)} (h : l.Perm r) : ∀ a, sumMet s p l a = sumMet s p r a := by
  induction h with
  | nil => intro a; rfl
  | cons x _ ih => intro a; exact ih _
  | swap x y l =>
    intro a
    simp only [sumMet]
    congr 1
    split <;> split <;> simp [BitVec.add_assoc, BitVec.add_comm x.2.1]
  | trans _ _ ih1 ih2 => intro a; rw [ih1, ih2]
theorem ent_sub' {β : Type} : ∀ (σ es : List (Pfx × β × Nat)), (σ.map fun e => e.2.2).Nodup → (∀ e ∈ σ, e ∈ es) → ∃ R, es.Perm (σ ++ R)
  | [], es, _, _ => ⟨es, .refl _⟩
  | e :: σ, es, hn, hs => by
    simp only [List.map_cons, List.nodup_cons] at hn
    obtain ⟨l1, l2, rfl⟩ := List.append_of_mem (hs e (by simp))
    have hs' : ∀ x ∈ σ, x ∈ l1 ++ l2 := by
      intro x hx
      have h1 := hs x (by simp [hx])
      have h2 : x ≠ e := fun h => hn.1 (by rw [← h]; exact List.mem_map_of_mem (f := fun e : Pfx × β × Nat => e.2.2) hx)
      simp only [List.mem_append, List.mem_cons] at h1 ⊢
      rcases h1 with h1 | h1 | h1
      · exact .inl h1
      · exact absurd h1 h2
      · exact .inr h1
    obtain ⟨R, hR⟩ := ent_sub' σ (l1 ++ l2) hn.2 hs'
    exact ⟨R, List.perm_middle.trans (hR.cons e)⟩

theorem mweight_spec {H : List PObj} {a mid clock : Nat} {s : Space} {n : BitVec 64} {es : List (Pfx × BitVec 64 × Nat)} (h : objCells H a = some (modelCells s n mid)) (hm : H[mid]? = some (.map clock (ents (entW es))))
    (hd : (es.map fun e => e.2.2).Nodup) (hb : ∀ e ∈ es, e.2.2 < clock) (hk : ∀ e ∈ es, e.1.ok) (p : Pfx) (hp : p.ok) :
    Sum Tryz.prog 19 [.ptr a 0, p.pv] H fun r H' => r = u (sumMet s p es 0) ∧ ∃ o, H' = H ++ [o] := by
  have hlt := objCells_lt h
  have hmid : mid < H.length := (List.getElem?_eq_some_iff.1 hm).1
  refine Sum.run mixed is19 (by simp [n19]) ?_
  simp [c19, r19, rules, Pfx.pv, Pfx.cells]
  refine callK_by (made_spec h) ⟨_, _, rfl, rfl⟩ ?_
  rintro _ H0 ⟨rfl, hHH⟩
  subst hHH
  simp [rules, h, modelCells, mrangePV, hm]
  refine pwp_loop mixed (fun m st => ∃ σ : List (Pfx × BitVec 64 × Nat), (∀ e ∈ σ, e ∈ es) ∧ (σ.map fun e => e.2.2).Nodup ∧ m + σ.length = es.length ∧ st.t 0 = .ptr a 0 ∧
    st.t 3 = .ept [i p.a0, i p.a1, i p.k0.kind, i p.k0.len, u p.k0.hi, u p.k0.lo, tx p.k0.path, i p.k1.kind, i p.k1.len, u p.k1.hi, u p.k1.lo, tx p.k1.path] 0 ∧ st.t 5 = u (sumMet s p σ 0) ∧ st.t 15 = .ptr H0.length 0 ∧
    st.H = H0 ++ [.miter (some mid) clock (σ.map fun e => e.2.2) clock]) es.length ⟨[], by simp, by simp, by simp, by simp [rules, sumMet]⟩ ?_
  rintro m ⟨t, H⟩ ⟨σ, k1, k2, k3, t0, t3, t5, t15, hH⟩
  simp only at t0 t3 t5 t15 hH
  subst hH
  have ki : (H0 ++ [PObj.miter (some mid) clock (σ.map fun e => e.2.2) clock])[H0.length]? = some (.miter (some mid) clock (σ.map fun e => e.2.2) clock) := by simp
  have km : (H0 ++ [PObj.miter (some mid) clock (σ.map fun e => e.2.2) clock])[mid]? = some (.map clock (ents (entW es))) := (List.getElem?_append_left hmid).trans hm
  simp [rules, t0, t15]
  refine ⟨⟨H0.length, rfl, .inr ⟨mid, clock, _, clock, clock, ents (entW es), ki, km, fun _ hne => ?_⟩⟩, ?_⟩
  · cases es with
    | nil => simp [ents, entW] at hne
    | cons e r => exact ⟨_, List.mem_cons_self, hb e (by simp)⟩
  rintro r H' ⟨id, hid, hh⟩
  cases hid
  obtain ⟨R, hR⟩ := ent_sub' σ es k2 k1
  have hRn : ((σ ++ R).map fun e => e.2.2).Nodup := (hR.map _).nodup_iff.1 hd
  have hRl : es.length = σ.length + R.length := by rw [hR.length_eq]; simp
  rcases hh with ⟨s', l, st, hh, _, _⟩ | ⟨m', since, seen, last, clock', es', h1, h2, hh⟩
  · rw [ki] at hh; cases hh
  rw [ki] at h1; cases h1
  rw [km] at h2; cases h2
  rcases hh with ⟨hall, rfl, rfl⟩ | ⟨e, he, hns, rfl, rfl⟩
  · have hR0 : R = [] := by
      cases R with
      | nil => rfl
      | cons x R =>
        have hx : x ∈ es := hR.mem_iff.2 (by simp)
        have h1 := hall (x.1.pv, u x.2.1, x.2.2) (by simp only [ents, entW, List.map_map]; exact List.mem_map.2 ⟨x, hx, rfl⟩) (hb x hx)
        rw [List.map_append, List.nodup_append] at hRn
        exact absurd rfl (hRn.2.2 _ h1 _ (by simp))
    rw [hR0, List.append_nil] at hR
    simp [rules, q_bo, t5]
    rw [sumMet_perm hR]
  · obtain ⟨e1, he1, rfl⟩ := ents_mem he
    obtain ⟨e, he', rfl⟩ := List.mem_map.1 he1
    simp only at hns ⊢
    have hRp : 0 < R.length := by
      cases R with
      | nil =>
        rw [List.append_nil] at hR
        exact absurd (List.mem_map_of_mem (f := fun e : Pfx × BitVec 64 × Nat => e.2.2) (hR.mem_iff.1 he')) hns
      | cons _ _ => simp
    have hcur : mcurPV (H0 ++ [PObj.miter (some mid) clock ((σ.map fun e => e.2.2) ++ [e.2.2]) clock]) (.ptr H0.length 0) = some (.tup [e.1.pv, u e.2.1]) := by
      have q1 : (H0 ++ [PObj.miter (some mid) clock ((σ.map fun e => e.2.2) ++ [e.2.2]) clock])[H0.length]? = some (.miter (some mid) clock ((σ.map fun e => e.2.2) ++ [e.2.2]) clock) := by simp
      have q2 : (H0 ++ [PObj.miter (some mid) clock ((σ.map fun e => e.2.2) ++ [e.2.2]) clock])[mid]? = some (.map clock (ents (entW es))) := (List.getElem?_append_left hmid).trans hm
      have q3 := find_ents (es := entW es) (by rw [entW_births]; exact hd) he1
      simp only [mcurPV, q1, q2, if_true, List.getLast?_append, List.getLast?_singleton, Option.some_or, Option.bind_some, q3, Option.map_some]
    have hset : (H0 ++ [PObj.miter (some mid) clock (σ.map fun e => e.2.2) clock]).set H0.length (.miter (some mid) clock ((σ.map fun e => e.2.2) ++ [e.2.2]) clock) = H0 ++ [PObj.miter (some mid) clock ((σ.map fun e => e.2.2) ++ [e.2.2]) clock] := by simp
    rw [hset]
    have ho : objCells (H0 ++ [PObj.miter (some mid) clock ((σ.map fun e => e.2.2) ++ [e.2.2]) clock]) a = some (modelCells s n mid) := by rw [h_lt hlt]; exact h
    simp [rules, q_bo, t0, t3, t5, t15, hcur, ho, modelCells, Pfx.pv, Pfx.cells]
    refine pureK_by (over_spec' s p e.1 hp (hk e he')) ?_
    have hn1 : ((σ ++ [e]).map fun e => e.2.2).Nodup := by
      rw [List.map_append, List.nodup_append]
      refine ⟨k2, by simp, fun x hx y hy => ?_⟩
      simp at hy
      rintro rfl
      rw [hy] at hx
      exact hns hx
    have hk1 : ∀ x ∈ σ ++ [e], x ∈ es := by
      intro x hx
      rcases List.mem_append.1 hx with hx | hx
      · exact k1 x hx
      · rw [List.mem_singleton.1 hx]; exact he'
    have hsn := sumMet_snoc s p σ e 0#64
    cases g : s.over p e.1
    · rw [g] at hsn
      simp [rules, t0, t3, t5, t15]
      refine ⟨m - 1, by omega, σ ++ [e], fun a b c h => hk1 _ h, hn1, by simp; omega, ?_⟩
      rw [hsn]; simp
    · rw [g] at hsn
      simp [rules, t0, t3, t5, t15]
      refine ⟨m - 1, by omega, σ ++ [e], fun a b c h => hk1 _ h, hn1, by simp; omega, ?_⟩
      rw [hsn]; simp
end Go.Pi.M
/- The order of prefixes. -/
namespace Go.Pi.M
open Go Go.Pi Go.Proofs Go.Sort

/-- A comparison that is a total order, up to what it holds for equal. -/
structure Tot {α : Type} (c : α → α → Int) : Prop where
  anti : ∀ x y, c x y < 0 ↔ 0 < c y x
  trans : ∀ x y z, c x y ≤ 0 → c y z ≤ 0 → c x z ≤ 0

theorem Tot.refl {α : Type} {c : α → α → Int} (h : Tot c) (x : α) : c x x = 0 := by have := h.anti x x; omega
theorem Tot.zero {α : Type} : Tot (fun _ _ : α => (0 : Int)) := ⟨by simp, by simp⟩
theorem Tot.or {α : Type} {c : α → α → Int} {L : α → α → List Int} (h1 : Tot c) (h2 : Tot fun x y => orL (L x y)) : Tot fun x y => orL (c x y :: L x y) := by
  constructor
  · intro x y
    have a := h1.anti x y
    have b := h1.anti y x
    have d := h2.anti x y
    simp only [orL]
    by_cases e : c x y = 0
    · have e' : c y x = 0 := by omega
      rw [if_pos e, if_pos e']; exact d
    · have e' : ¬ c y x = 0 := by omega
      rw [if_neg e, if_neg e']; exact a
  · intro x y z
    have a1 := h1.anti x y
    have a2 := h1.anti y x
    have a3 := h1.anti y z
    have a4 := h1.anti z y
    have a5 := h1.anti x z
    have a6 := h1.anti z x
    have t1 := h1.trans x y z
    have t2 := h1.trans y z x
    have t3 := h1.trans z x y
    have t4 := h1.trans z y x
    have t5 := h1.trans y x z
    have t6 := h1.trans x z y
    have d := h2.trans x y z
    simp only [orL]
    by_cases e1 : c x y = 0
    · rw [if_pos e1]
      by_cases e2 : c y z = 0
      · have e3 : c x z = 0 := by omega
        rw [if_pos e2, if_pos e3]; exact d
      · have e3 : ¬ c x z = 0 := by omega
        rw [if_neg e2, if_neg e3]; intro _ h; omega
    · rw [if_neg e1]
      by_cases e2 : c y z = 0
      · have e3 : ¬ c x z = 0 := by omega
        rw [if_pos e2, if_neg e3]; intro h _; omega
      · rw [if_neg e2]
        intro g1 g2
        have e3 : ¬ c x z = 0 := by omega
        rw [if_neg e3]; omega
theorem Tot.nil {α : Type} : Tot (fun _ _ : α => orL []) := Tot.zero
theorem tot_cmpI {α : Type} (f : α → Int) : Tot fun x y => cmpI (f x) (f y) := by
  constructor
  · intro x y; unfold cmpI; repeat' split
    all_goals omega
  · intro x y z; unfold cmpI; repeat' split
    all_goals omega
theorem tot_cmpU {α : Type} (f : α → BitVec 64) : Tot fun x y => cmpU (f x) (f y) := by
  constructor
  · intro x y; unfold cmpU; simp only [BitVec.lt_def]; repeat' split
    all_goals omega
  · intro x y z; unfold cmpU; simp only [BitVec.lt_def]; repeat' split
    all_goals omega
theorem cb_anti : ∀ a b : List UInt8, Lib.compareBytes a b = - Lib.compareBytes b a
  | [], [] => rfl
  | [], _ :: _ => rfl
  | _ :: _, [] => rfl
  | a :: x, b :: y => by
    simp only [Lib.compareBytes, UInt8.lt_iff_toNat_lt]
    repeat' split
    all_goals first | omega | exact cb_anti x y
theorem cb_trans : ∀ a b c : List UInt8, Lib.compareBytes a b ≤ 0 → Lib.compareBytes b c ≤ 0 → Lib.compareBytes a c ≤ 0
  | [], [], _ => by simp [Lib.compareBytes]
  | [], _ :: _, [] => by simp [Lib.compareBytes]
  | [], _ :: _, _ :: _ => by simp [Lib.compareBytes]
  | _ :: _, [], _ => by simp [Lib.compareBytes]
  | _ :: _, _ :: _, [] => by simp [Lib.compareBytes]
  | a :: x, b :: y, c :: z => by
    simp only [Lib.compareBytes, UInt8.lt_iff_toNat_lt]
    have ih := cb_trans x y z
    repeat' split
    all_goals first | omega | exact ih | (intro h1 h2; omega)
theorem cb_zero : ∀ a b : List UInt8, Lib.compareBytes a b = 0 → a = b
  | [], [] => fun _ => rfl
  | [], _ :: _ => by simp [Lib.compareBytes]
  | _ :: _, [] => by simp [Lib.compareBytes]
  | a :: x, b :: y => by
    simp only [Lib.compareBytes, UInt8.lt_iff_toNat_lt]
    intro h
    split at h
    · cases h
    · split at h
      · cases h
      · rw [cb_zero x y h]
        congr 1
        apply UInt8.toNat_inj.1; omega
theorem tot_cb {α : Type} (f : α → List UInt8) : Tot fun x y => Lib.compareBytes (f x) (f y) :=
  ⟨fun x y => by have := cb_anti (f x) (f y); omega, fun x y z => cb_trans _ _ _⟩
theorem cmpI_zero {a b : Int} (h : cmpI a b = 0) : a = b := by
  unfold cmpI at h
  repeat' split at h
  all_goals omega
theorem cmpU_zero {a b : BitVec 64} (h : cmpU a b = 0) : a = b := by
  unfold cmpU at h; simp only [BitVec.lt_def] at h
  apply BitVec.eq_of_toNat_eq
  repeat' split at h
  all_goals omega
theorem orL_zero : ∀ {l : List Int}, orL l = 0 → ∀ x ∈ l, x = 0
  | [], _ => by simp
  | a :: l, h => by
    simp only [orL] at h
    by_cases e : a = 0
    · rw [if_pos e] at h
      intro x hx
      rcases List.mem_cons.1 hx with rfl | hx
      · exact e
      · exact orL_zero h x hx
    · rw [if_neg e] at h; exact absurd h e
theorem tot_key {α : Type} (f : α → Key) : Tot fun x y => (f x).cmp (f y) := by
  unfold Key.cmp Wide.cmp
  exact (tot_cmpI fun x => (f x).kind).or (((tot_cmpU fun x => (f x).bits.hi).or ((tot_cmpU fun x => (f x).bits.lo).or Tot.nil)).or ((tot_cb fun x => (f x).path).or ((tot_cmpI fun x => (f x).len).or Tot.nil)))
theorem key_zero {a b : Key} (h : a.cmp b = 0) : a = b := by
  have z := orL_zero h
  simp only [List.mem_cons, List.not_mem_nil, or_false, forall_eq_or_imp, forall_eq] at z
  obtain ⟨z1, z2, z3, z4⟩ := z
  have z5 := orL_zero z2
  simp only [List.mem_cons, List.not_mem_nil, or_false, forall_eq_or_imp, forall_eq] at z5
  obtain ⟨k, l, h, o, p⟩ := a
  obtain ⟨k', l', h', o', p'⟩ := b
  simp only [Key.bits] at z5
  rw [Key.mk.injEq]
  exact ⟨cmpI_zero z1, cmpI_zero z4, cmpU_zero z5.1, cmpU_zero z5.2, cb_zero _ _ z3⟩
def Pfx.cmpL (p q : Pfx) : Int := orL [orL [cmpI p.a0 q.a0, cmpI p.a1 q.a1], p.k0.cmp q.k0, p.k1.cmp q.k1]
theorem tot_cmpL : Tot Pfx.cmpL := by
  unfold Pfx.cmpL
  exact ((tot_cmpI fun x : Pfx => x.a0).or ((tot_cmpI fun x : Pfx => x.a1).or Tot.nil)).or ((tot_key fun x : Pfx => x.k0).or ((tot_key fun x : Pfx => x.k1).or Tot.nil))
theorem pcmp_L : Pfx.cmp = Pfx.cmpL := by
  funext p q
  unfold Pfx.cmp
  split
  · rename_i h; subst h; exact (tot_cmpL.refl p).symm
  · rfl
theorem tot_pcmp : Tot Pfx.cmp := by rw [pcmp_L]; exact tot_cmpL
theorem pcmp_zero {a b : Pfx} (h : a.cmp b = 0) : a = b := by
  rw [pcmp_L] at h
  have z := orL_zero h
  simp only [List.mem_cons, List.not_mem_nil, or_false, forall_eq_or_imp, forall_eq] at z
  obtain ⟨z1, z2, z3⟩ := z
  have z5 := orL_zero z1
  simp only [List.mem_cons, List.not_mem_nil, or_false, forall_eq_or_imp, forall_eq] at z5
  obtain ⟨p1, p2, p3, p4⟩ := a
  obtain ⟨q1, q2, q3, q4⟩ := b
  rw [Pfx.mk.injEq]
  exact ⟨cmpI_zero z5.1, cmpI_zero z5.2, key_zero z2, key_zero z3⟩
theorem tot_byHeight : Tot Pfx.byHeight := by
  unfold Pfx.byHeight
  exact (tot_cmpI fun p : Pfx => w64 (p.a0 + p.a1)).or (tot_pcmp.or Tot.nil)
theorem byHeight_zero {a b : Pfx} (h : a.byHeight b = 0) : a = b := by
  have z := orL_zero h
  simp only [List.mem_cons, List.not_mem_nil, or_false, forall_eq_or_imp, forall_eq] at z
  exact pcmp_zero z.2
theorem Tot.swo {α : Type} {c : α → α → Int} (h : Tot c) : SWO (ltOf c) where
  irrefl := fun x => by simp [ltOf, h.refl x]
  trans := fun x y z => by
    simp only [ltOf, decide_eq_true_eq]
    intro h1 h2
    have := h.trans x y z (by omega) (by omega)
    have a1 := h.anti x z
    have a2 := h.anti z x
    have a3 := h.anti x y
    have t := h.trans y z x
    have a4 := h.anti y z
    omega
  ntrans := fun x y z => by
    simp only [ltOf, decide_eq_false_iff_not]
    intro h1 h2 h3
    have a1 := h.anti x y
    have a2 := h.anti y z
    have a3 := h.anti x z
    have b1 := h.anti y x
    have b2 := h.anti z y
    have t := h.trans z y x
    omega
theorem Tot.parts {α : Type} {c : α → α → Int} (h : Tot c) (hz : ∀ x y, c x y = 0 → x = y) (x y : α) (h1 : (ltOf c) x y = false) (h2 : (ltOf c) y x = false) : x = y := by
  simp only [ltOf, decide_eq_false_iff_not] at h1 h2
  have a := h.anti x y
  have b := h.anti y x
  exact hz x y (by omega)
end Go.Pi.M
namespace Go.Proofs
open Go.Shelf
end Go.Proofs
namespace Go.Pi.M
open Go Go.Pi Go.Proofs Go.Sort Go.RowKit
set_option maxRecDepth 10000

theorem enc_pfx : Enc Pfx.pv 12 where
  agg := fun x => ⟨x.cells, rfl, rfl, fun c hc => by
    simp only [Pfx.cells, List.mem_cons, List.not_mem_nil, or_false] at hc
    rcases hc with h | h | h | h | h | h | h | h | h | h | h | h <;> subst h <;> exact ⟨_, rfl, rfl⟩⟩
theorem plain_pfx (x : Pfx) : plainP x.pv = true := rfl
theorem aE34 (w : World) : (isAgg 34).run Tryz.prog w = .ok true w := Tryz.isAgg34 w
theorem zE34 (w : World) : (Go.sizeOf 34).run Tryz.prog w = .ok 12 w := Tryz.sizeOf34 w
theorem enters51 (args : Array Value) (w : World) : (callFunc 51 args).run Tryz.prog w = .ok (.enter 51 args) w := enters_of Tryz.func51 (by kernel_rfl) rfl _ _
theorem enters36 (args : Array Value) (w : World) : (callFunc 36 args).run Tryz.prog w = .ok (.enter 36 args) w := enters_of Tryz.func36 (by kernel_rfl) rfl _ _
theorem enters39 (args : Array Value) (w : World) : (callFunc 39 args).run Tryz.prog w = .ok (.enter 39 args) w := enters_of Tryz.func39 (by kernel_rfl) rfl _ _

/-- slices.SortFunc over prefixes. -/
theorem sort51_spec {cf : Pfx → Pfx → Int} (hO : Tot cf) (hz : ∀ x y, cf x y = 0 → x = y) {g : Nat} (eg : ∀ args w, (callFunc g args).run Tryz.prog w = .ok (.enter g args) w)
    (hcmp : ∀ x y, Pure Tryz.prog g [x.pv, y.pv] (i (cf x y))) {H : List PObj} {id off cap n : Nat} {o : Obj} {l : List Pfx} (hn : n = l.length) (hne : l ≠ []) (hsz : l.length ≤ 1000000) (ho : H[id]? = some (.raw o)) (hrow : RowObj o off (flat Pfx.pv l)) :
    Sum Tryz.prog 51 [.hsl id off n cap, .clo g []] H fun r H' => r = .tup [] ∧ ∃ o', H' = H.set id (.raw o') ∧ RowObj o' off (flat Pfx.pv (sortK cf l)) := by
  subst hn
  exact sort_raw (P := Tryz.prog) (ρ := Tryz.sort51_ren) Tryz.sort51 aE34 zE34 enc_pfx enters51 cf hO.swo (hO.parts hz) eg hcmp (by decide) hne (by omega) ho hrow

theorem rowObj_any (off : Nat) (vs : List Value) : ∃ o, RowObj o off vs := by
  refine ⟨.cells (List.replicate off Value.nilIface ++ vs).toArray 0 (0, 0), _, _, _, _, rfl, fun j v hj => ⟨?_, by simp⟩⟩
  rw [List.getElem?_toArray, List.getElem?_append_right (by simp)]
  simpa using hj
theorem sort51_none {g : Nat} {o : Bool} {H : List PObj} : Sum Tryz.prog 51 [.slc o [], .clo g []] H fun r H' => r = .tup [] ∧ H' = H := by
  intro w bl π O cargs hH ha
  obtain ⟨v0, v1, rfl, h0, h1⟩ := args2 ha
  cases h0 with
  | slc _ hne => exact absurd rfl hne
  | slc0 h =>
  refine .inl ⟨enters51 _ _, (AnyF.slices_SortFunc_none (P := Tryz.prog) (ρ := Tryz.sort51_ren) Tryz.sort51 _ _ _ w).mono fun e w' ⟨he, hw⟩ => ⟨_, he, ?_⟩⟩
  subst hw
  exact ⟨.tup [], H, bl, π, O, ⟨rfl, rfl⟩, .tup rfl (fun i z u hz => by simp at hz), hH, fun _ h => .inl h, Frame'.refl⟩
theorem sortK_congr {α : Type} {cf : α → α → Int} (hO : Tot cf) (hz : ∀ x y, cf x y = 0 → x = y) {l l' : List α} (h : l.Perm l') : sortK cf l = sortK cf l' := by
  have tr : ∀ a b c : α, (!(ltOf cf) b a) = true → (!(ltOf cf) c b) = true → (!(ltOf cf) c a) = true := by
    intro a b c h1 h2
    simp only [Bool.not_eq_true'] at *
    exact hO.swo.ntrans _ _ _ h2 h1
  have to : ∀ a b : α, ((!(ltOf cf) b a) || (!(ltOf cf) a b)) = true := by
    intro a b
    simp only [ltOf, Bool.or_eq_true, Bool.not_eq_true', decide_eq_false_iff_not]
    have := hO.anti a b
    omega
  refine List.Perm.eq_of_pairwise (le := fun x y => (!(ltOf cf) y x) = true) ?_ (List.pairwise_mergeSort tr to l) (List.pairwise_mergeSort tr to l') (((sortK_perm cf l).trans h).trans (sortK_perm cf l').symm)
  intro a b _ _ h1 h2
  simp only [Bool.not_eq_true'] at h1 h2
  exact hO.parts hz _ _ h2 h1

theorem args1 {w : World} {bl : List Nat} {π : Nat → Nat → Prop} {p : PV} {vs : Array Value} (h : ArgsRel w bl π [p] vs) : ∃ a, vs = #[a] ∧ VRel w bl π p a := by
  obtain ⟨a, ha, ra⟩ := argsGet h 0 p rfl
  refine ⟨a, Array.ext' ?_, ra⟩
  have hs := h.1
  obtain ⟨l⟩ := vs
  simp at hs ha ⊢
  match l, hs with
  | [x], _ => simp at ha; simp [ha]

def keysP (σ : List (Pfx × PV × Nat)) : List Pfx := σ.map fun e => e.1

/-- slices.Collect over a map's keys: a new row. -/
theorem collect_raw {g n : Nat} {z : List Nat} {pc : PCode} {rs : List RV} (hf : FnIs Tryz.prog (z ++ pures) g n pc rs) (hpc : pc = c52) (hn : n = 14) (hrs : rs = [])
    {H : List PObj} {mid clock : Nat} {es : List (Pfx × PV × Nat)} (hm : H[mid]? = some (.map clock (ents es))) (hd : (es.map fun e => e.2.2).Nodup) (hb : ∀ e ∈ es, e.2.2 < clock) (hl : es.length ≤ 1000000) (hv : ∀ e ∈ es, plainP e.2.1 = true) :
    Sum Tryz.prog 50 [.clo g [.ept [.map mid] 0]] H fun r H' => (es = [] ∧ r = .slc true [] ∧ H' = H) ∨
      (es ≠ [] ∧ ∃ l off cap o, l.Perm (keysP es) ∧ H' = H ++ [.raw o] ∧ r = .hsl H.length off l.length cap ∧ l.length ≤ cap ∧ RowObj o off (flat Pfx.pv l)) := by
  intro w bl π O cargs hH ha
  obtain ⟨v, rfl, hv0⟩ := args1 ha
  cases hv0 with
  | clo hl0 hr0 =>
  rename_i vs
  have hs1 : vs.size = 1 := by simpa using hl0
  have hr1 := hr0 0 (.ept [.map mid] 0) vs[0] rfl (by rw [Array.getElem?_eq_getElem])
  have hvs : vs = #[vs[0]] := by
    apply Array.ext_getElem?
    intro j
    rcases (by omega : j = 0 ∨ 0 < j) with rfl | hj
    · rw [Array.getElem?_eq_getElem (by omega)]; simp
    · rw [Array.getElem?_eq_none (by omega), Array.getElem?_eq_none (by simp; omega)]
  generalize vs[0] = u at hr1 hvs
  subst hvs
  cases hr1 with
  | ept cv hc hr =>
  rename_i c0 base
  obtain ⟨hπ0, hk0⟩ := hc 0 (by simp)
  have hmv := hr 0 (.map mid) rfl
  generalize cv 0 = mv at hmv hk0
  cases hmv with
  | map hbm =>
  rename_i b
  have hlenH := hH.len
  obtain ⟨om, _, _, _, _, hob⟩ := hH.ob
  obtain ⟨arr, ha1, ha2, ha3⟩ := hob mid _ b hm hbm
  have hliveb : Live bl H b := ⟨mid, _, hbm, hm, by simp⟩
  have hblt := hH.lt b (List.mem_of_getElem? hbm)
  have hc0 := hH.pr c0 _ hπ0
  have hplain : ∀ x ∈ ents es, plainP x.1 = true ∧ plainP x.2.1 = true := by
    intro x hx
    obtain ⟨e, he, rfl⟩ := ents_mem hx
    exact ⟨plain_pfx _, hv e he⟩
  have hlive1 : ∀ k, Live [b] [PObj.map clock (ents es)] k → k = b := by
    rintro k ⟨id, o, h1, h2, h3⟩
    cases id with
    | zero => simpa using h1.symm
    | succ id => simp at h1
  have hH1 : HRel w [b] (fun x o => x = c0 ∧ o = base + 0) (fun _ => False) [.map clock (ents es)] := {
    len := rfl
    nd := by simp
    lt := fun x hx => by rw [List.mem_singleton.1 hx]; exact hblt
    ob := ⟨fun _ _ => none, by simp, by simp, by simp, by simp, fun id o x h1 h2 => by
      cases id with
      | succ id => simp at h1
      | zero =>
        simp at h1 h2
        subst h1; subst h2
        refine ⟨arr, ha1, ha2, fun i kv e h1 h2 => ?_⟩
        obtain ⟨g1, g2, g3⟩ := ha3 i kv e h1 h2
        have hp := hplain kv (List.mem_of_getElem? h1)
        exact ⟨g1.any hp.1, g2.any hp.2, g3⟩⟩
    pr := fun x o ⟨h1, h2⟩ => by
      subst h1
      exact ⟨fun hL => hc0.1 (by rw [hlive1 _ hL]; exact hliveb), hc0.2⟩ }
  have hA1 : ArgsRel w [b] (fun x o => x = c0 ∧ o = base + 0) [.clo g [.ept [.map 0] 0]] #[.func (.func g) #[] #[.pointer (some ⟨c0, base + 0, none⟩)]] := by
    refine ⟨rfl, fun j z q hz hq => ?_⟩
    cases j with
    | succ j => simp at hz
    | zero =>
      simp at hz hq
      subst hz; subst hq
      refine .clo rfl fun j z q hz hq => ?_
      cases j with
      | succ j => simp at hz
      | zero =>
        simp at hz hq
        subst hz; subst hq
        refine .ept (base := base) (fun _ => .map (some b)) (fun c hc => ?_) (fun c z hz => ?_)
        · obtain rfl : c = 0 := by simpa using hc
          exact ⟨⟨rfl, rfl⟩, hk0⟩
        · cases c with
          | succ c => simp at hz
          | zero => simp at hz; subst hz; exact .map rfl
  refine (collect_spec hf hpc hn hrs (H := [.map clock (ents es)]) (mid := 0) rfl hd hb hl w _ _ _ _ hH1 hA1).mono ?_
  rintro v w' ⟨r, H', bl', π', O', ⟨⟨σ, hp, rfl⟩, hlen, hsame⟩, hvr, hHR, hOG, hF⟩
  have F1 : ∀ k, k < w.heap.size → k ≠ b → w'.heap[k]? = w.heap[k]? := fun k hk hne => hF.block k hk (fun hL => hne (hlive1 k hL)) (by simp)
  have hb' : bl'[0]? = some b := hF.pre 0 b rfl
  have hm' : H'[0]? = some (.map clock (ents es)) := by rw [hsame 0 (by simp)]; rfl
  obtain ⟨om', _, _, _, _, hob'⟩ := hHR.ob
  obtain ⟨arr', hb1, hb2, hb3⟩ := hob' 0 _ b hm' hb'
  have F2 : ∀ (R : Nat → PV → Value → Prop) bl' π', ORel R (VRel w' bl' π') w' b (.map clock (ents es)) := fun R bl2 π2 => ⟨arr', hb1, hb2, fun i kv e h1 h2 => by
    obtain ⟨g1, g2, g3⟩ := hb3 i kv e h1 h2
    have hp := hplain kv (List.mem_of_getElem? h1)
    exact ⟨g1.any hp.1, g2.any hp.2, g3⟩⟩
  have hset : H.set mid (.map clock (ents es)) = H := by
    apply List.ext_getElem?
    intro j
    rw [List.getElem?_set]
    split
    · rename_i hj
      subst hj
      rw [if_pos (List.getElem?_eq_some_iff.1 hm).1, hm]
    · rfl
  by_cases hσ : σ = []
  · subst hσ
    have hes : es = [] := by simpa using hp.length_eq.symm
    have hk : keysOf ([] : List (Pfx × PV × Nat)) = [] := rfl
    rw [hk] at hvr
    cases hvr with
    | slc _ hne => exact absurd rfl hne
    | slc0 h =>
    refine after_turned hH hbm hm (by simp) (by simp) hF.os hF.tape hF.output hF.size F1 F2 [] [] rfl (by simp) (by simp) (by simp) (r := .slc true []) (.slc0 (fun _ => h rfl)) (.inl ⟨hes, rfl, ?_⟩)
    simpa using hset
  · have hes : es ≠ [] := by
      rintro rfl
      exact hσ (by simpa using hp.length_eq)
    have hks : keysOf σ ≠ [] := fun e => hσ (List.map_eq_nil_iff.1 e)
    have hke : σ.isEmpty = false := by simpa using hσ
    rw [hke] at hvr
    generalize hkg : keysOf σ = ks at hvr hks
    cases hvr with
    | slc0 h => exact absurd rfl hks
    | slc cv2 hne2 hcap2 hk2 hc2 hr2 =>
    subst hkg
    rename_i c off cap k
    obtain ⟨x0, hx0⟩ := List.exists_mem_of_ne_nil _ hks
    have hk12 : k = 12 := by rw [← hk2 x0 hx0]; exact keysOf_agg x0 hx0
    subst hk12
    have hlenk : (keysOf σ).length = (keysP σ).length := by simp [keysOf, keysP]
    have hpos : 0 < (keysOf σ).length := List.length_pos_iff.2 hks
    have hcnew : w.heap.size ≤ c := by
      have h1 := hF.fresh _ _ (hc2 0 0 hpos (by decide)).1
      have h2 := hF.fresh _ _ (hc2 0 1 hpos (by decide)).1
      rcases h1 with h1 | h1 | h1
      · rcases h2 with h2 | h2 | h2
        · have := h1.2; have := h2.2; omega
        · exact h2
        · exact h2.elim
      · exact h1
      · exact h1.elim
    have hceq : ∀ j v, (flat Pfx.pv (keysP σ))[j]? = some v → w'.cell? ⟨c, off + j, none⟩ = some v ∧ w'.frozen? ⟨c, off + j, none⟩ = false := by
      intro j v hj
      have hjl : j < (keysP σ).length * 12 := by
        have := (List.getElem?_eq_some_iff.1 hj).1
        rwa [flat_len enc_pfx] at this
      have e : j = j / 12 * 12 + j % 12 := by omega
      have hq : j / 12 < (keysP σ).length := by omega
      have hmod : j % 12 < 12 := by omega
      rw [e, flat_at enc_pfx _ _ _ hmod, List.getElem?_eq_getElem hq, Option.bind_some] at hj
      obtain ⟨zc, hz⟩ : ∃ zc, ((keysP σ)[j / 12].pv).cells[j % 12]? = some zc := ⟨_, List.getElem?_eq_getElem (Nat.lt_of_lt_of_eq hmod (enc_pfx.clen (keysP σ)[j / 12]).symm)⟩
      have hcr := enc_pfx.cellRel (keysP σ)[j / 12] hz w' bl' π'
      rw [hcr.1] at hj
      have hko : (keysOf σ)[j / 12]? = some ((keysP σ)[j / 12].pv) := by
        have hq2 : j / 12 < σ.length := by simpa [keysP] using hq
        simp [keysOf, keysP, hq2]
      have h3 := hr2 (j / 12) (j % 12) (keysP σ)[j / 12].pv zc hko hz
      obtain ⟨_, h4⟩ := hc2 (j / 12) (j % 12) (by omega) hmod
      have hvv : cv2 (j / 12) (j % 12) = v := by
        obtain ⟨q, rfl⟩ := enc_pfx.cellV (keysP σ)[j / 12] hz
        cases h3
        simpa [valOf] using hj
      rw [hvv] at h4
      have e5 : off + j / 12 * 12 + j % 12 = off + j := by omega
      rw [e5] at h4
      exact ⟨kell_cell h4, kell_free h4⟩
    have hfne : flat Pfx.pv (keysP σ) ≠ [] := by
      intro e
      have := flat_len enc_pfx (keysP σ)
      rw [e] at this
      simp at this
      omega
    have hclt : c < w'.heap.size := by
      obtain ⟨v0, hv0⟩ : ∃ v, (flat Pfx.pv (keysP σ))[0]? = some v := by
        cases h : flat Pfx.pv (keysP σ) with
        | nil => exact absurd h hfne
        | cons x r => exact ⟨x, rfl⟩
      have := (hceq 0 v0 hv0).1
      simp only [World.cell?] at this
      split at this
      · rename_i g; exact (Array.getElem?_eq_some_iff.1 g).1
      · cases this
    have hco : w'.heap[c]? = some w'.heap[c] := Array.getElem?_eq_getElem _
    generalize w'.heap[c] = o at hco
    refine after_turned hH hbm hm (by simp) (by simp) hF.os hF.tape hF.output hF.size F1 F2 [c] [o] rfl (by simp) (by simp [hcnew, hclt]) (fun i c1 o1 h1 h2 => ?_) (r := .hsl H.length off (keysP σ).length cap) ?_ (.inr ⟨hes, keysP σ, off, cap, o, hp.map _, ?_, rfl, ?_, .of hco hfne hceq⟩)
    · cases i with
      | succ i => simp at h1
      | zero => simp at h1 h2; subst h1; subst h2; exact hco
    · rw [hlenk]
      refine .hsl ?_
      rw [← hlenH]; simp
    · rw [hset]; rfl
    · rw [← hlenk]; exact hcap2

/-- slices.SortedFunc over a map's keys. -/
theorem sortedFunc_spec {cf : Pfx → Pfx → Int} (hO : Tot cf) (hz : ∀ x y, cf x y = 0 → x = y) {fc : Nat} (eg : ∀ args w, (callFunc fc args).run Tryz.prog w = .ok (.enter fc args) w)
    (hcmp : ∀ x y, Pure Tryz.prog fc [x.pv, y.pv] (i (cf x y))) {g n : Nat} {z : List Nat} {pc : PCode} {rs : List RV} (hf : FnIs Tryz.prog (z ++ pures) g n pc rs) (hpc : pc = c52) (hn : n = 14) (hrs : rs = [])
    {H : List PObj} {mid clock : Nat} {es : List (Pfx × PV × Nat)} (hm : H[mid]? = some (.map clock (ents es))) (hd : (es.map fun e => e.2.2).Nodup) (hb : ∀ e ∈ es, e.2.2 < clock) (hl : es.length ≤ 1000000) (hv : ∀ e ∈ es, plainP e.2.1 = true) :
    Sum Tryz.prog 34 [.clo g [.ept [.map mid] 0], .clo fc []] H fun r H' => r = .slc es.isEmpty ((sortK cf (keysP es)).map Pfx.pv) ∧ (H' = H ∨ ∃ x, H' = H ++ [x]) := by
  cases hes : es with
  | nil =>
    subst hes
    have h : Sum Tryz.prog 34 [.clo g [.ept [.map mid] 0], .clo fc []] H fun r H' => r = .slc true [] ∧ (H' = H ∨ ∃ x, H' = H ++ [x]) := by
      refine Sum.run mixed is34 (by simp [n34]) ?_
      simp [c34, r34, rules]
      refine callK_by (collect_raw hf hpc hn hrs hm hd hb hl hv) ⟨_, H, .inl ⟨rfl, rfl, rfl⟩⟩ ?_
      rintro _ H' (⟨_, rfl, rfl⟩ | ⟨h, _⟩)
      · simp [rules]
        refine callK_by sort51_none ⟨_, _, rfl, rfl⟩ ?_
        rintro _ H' ⟨rfl, rfl⟩
        simp [rules]
      · exact absurd rfl h
    exact h.mono fun r H' ⟨h1, h2⟩ => ⟨by rw [h1]; simp [keysP, sortK], h2⟩
  | cons e0 r0 =>
    rw [← hes]
    have hne : es ≠ [] := by rw [hes]; simp
    have hlk : (keysP es).length = es.length := by simp [keysP]
    have hsl := sortK_len cf (keysP es)
    have hie : es.isEmpty = false := by rw [hes]; rfl
    rw [hie]
    refine (Sum.freeze enc_pfx (by decide) (l := sortK cf (keysP es)) (fun e => hne (List.length_eq_zero_iff.1 (by rw [e, hlk] at hsl; exact hsl.symm))) ?_).mono fun r H' ⟨h1, h2⟩ => ⟨h1, .inr h2⟩
    refine Sum.run mixed is34 (by simp [n34]) ?_
    simp [c34, r34, rules]
    refine callK_by (collect_raw hf hpc hn hrs hm hd hb hl hv) ?_ ?_
    · obtain ⟨o, ho⟩ := rowObj_any 0 (flat Pfx.pv (keysP es))
      exact ⟨_, _, .inr ⟨hne, keysP es, 0, _, o, .refl _, rfl, rfl, Nat.le_refl _, ho⟩⟩
    rintro _ H' (⟨h, _⟩ | ⟨_, l, off, cap, o, hp, rfl, rfl, hcap, hrow⟩)
    · exact absurd h hne
    simp [rules]
    have hlen : l.length = es.length := by rw [hp.length_eq, hlk]
    refine callK_by (sort51_spec hO hz eg hcmp rfl (by rintro rfl; exact hne (List.length_eq_zero_iff.1 hlen.symm)) (by omega) (by simp) hrow) ?_ ?_
    · obtain ⟨o', ho'⟩ := rowObj_any off (flat Pfx.pv (sortK cf l))
      exact ⟨_, _, rfl, o', rfl, ho'⟩
    rintro _ H' ⟨rfl, o', rfl, hrow'⟩
    simp [rules]
    exact ⟨off, cap, by rw [hsl, hlk, ← hlen]; exact hcap, by rw [← sortK_congr hO hz hp]; exact hrow', rfl, by rw [hsl, hlk, hlen], rfl⟩
end Go.Pi.M
