import Derived.Test.YtcmkgbboldchbaaGreatDoorB5
set_option linter.unusedSimpArgs false
set_option linter.unusedVariables false
/- The plain law, first part: lists of loads, and what they come to. -/
namespace Go.Pi.M
open Go Go.Pi Go.Proofs Go.Sort
set_option maxRecDepth 10000

def ntot (l : List Load) : Nat := (l.map fun x => x.w.toNat).sum
def nsum (q : Pfx) : List Load → Nat
  | [] => 0
  | x :: r => (if x.p = q then x.w.toNat else 0) + nsum q r
theorem ntot_cons (x : Load) (l : List Load) : ntot (x :: l) = x.w.toNat + ntot l := by simp [ntot]
theorem ntot_append (l r : List Load) : ntot (l ++ r) = ntot l + ntot r := by simp [ntot]
theorem nsum_append (q : Pfx) : ∀ l r : List Load, nsum q (l ++ r) = nsum q l + nsum q r
  | [], r => by simp [nsum]
  | x :: l, r => by rw [List.cons_append, nsum, nsum, nsum_append q l r]; omega
theorem sumW_nat : ∀ (l : List Load) (a : BitVec 64), (sumW l a).toNat = (a.toNat + ntot l) % 18446744073709551616
  | [], a => by
    have : a.toNat < 18446744073709551616 := a.isLt
    simp only [sumW, ntot, List.map_nil, List.sum_nil]
    omega
  | x :: r, a => by
    rw [sumW, sumW_nat r, BitVec.toNat_add, ntot_cons]
    omega
theorem total_nat (l : List Load) (h : ntot l < 18446744073709551616) : (total l).toNat = ntot l := by
  unfold total
  rw [sumW_nat]
  simp
  omega
theorem nsum_le (q : Pfx) : ∀ l : List Load, nsum q l ≤ ntot l
  | [] => by simp [nsum]
  | x :: r => by have := nsum_le q r; rw [nsum, ntot_cons]; split <;> omega

/-- In order, none twice, each weighing something. -/
structure Canon (l : List Load) : Prop where
  ord : l.Pairwise fun x y => x.p.cmp y.p < 0
  pos : ∀ x ∈ l, 0 < x.w.toNat
theorem Canon.nil : Canon [] := ⟨.nil, by simp⟩
theorem nsum_zero {q : Pfx} : ∀ {l : List Load}, (∀ x ∈ l, x.p ≠ q) → nsum q l = 0
  | [], _ => rfl
  | x :: r, h => by
    rw [nsum, if_neg (h x (by simp)), nsum_zero fun y hy => h y (by simp [hy])]
theorem pcmp_lt_ne {a b : Pfx} (h : a.cmp b < 0) : a ≠ b := by rintro rfl; rw [tot_pcmp.refl] at h; omega
theorem pcmp_trans {a b c : Pfx} (h : a.cmp b < 0) (k : b.cmp c < 0) : a.cmp c < 0 := by
  have := tot_pcmp.swo.trans a b c (by simpa [ltOf] using h) (by simpa [ltOf] using k)
  simpa [ltOf] using this
theorem pcmp_conn (a b : Pfx) : a.cmp b < 0 ∨ a = b ∨ b.cmp a < 0 := by
  have h1 := tot_pcmp.anti b a
  by_cases h : a.cmp b = 0
  · exact .inr (.inl (pcmp_zero h))
  · by_cases g : a.cmp b < 0
    · exact .inl g
    · exact .inr (.inr (h1.2 (by omega)))
theorem canon_unique : ∀ {l r : List Load}, Canon l → Canon r → (∀ q, nsum q l = nsum q r) → l = r
  | [], [], _, _, _ => rfl
  | [], y :: r, _, h2, h => by
    have := h y.p
    have hp := h2.pos y (by simp)
    rw [nsum, nsum, if_pos rfl] at this
    omega
  | x :: l, [], h1, _, h => by
    have := h x.p
    have hp := h1.pos x (by simp)
    rw [nsum, nsum, if_pos rfl] at this
    omega
  | x :: l, y :: r, h1, h2, h => by
    obtain ⟨o1, o1'⟩ := List.pairwise_cons.1 h1.ord
    obtain ⟨o2, o2'⟩ := List.pairwise_cons.1 h2.ord
    have p1 := h1.pos x (by simp)
    have p2 := h2.pos y (by simp)
    have hx : nsum x.p l = 0 := nsum_zero fun z hz => fun e => pcmp_lt_ne (o1 z hz) e.symm
    have hy : nsum y.p r = 0 := nsum_zero fun z hz => fun e => pcmp_lt_ne (o2 z hz) e.symm
    have exy : x.p = y.p := by
      rcases pcmp_conn x.p y.p with g | g | g
      · have := h x.p
        rw [nsum, if_pos rfl, nsum, if_neg (fun e => pcmp_lt_ne g e.symm), nsum_zero fun z hz => fun e => pcmp_lt_ne (pcmp_trans g (o2 z hz)) e.symm] at this
        omega
      · exact g
      · have := h y.p
        rw [nsum, if_neg (fun e => pcmp_lt_ne g e.symm), nsum, if_pos rfl, nsum_zero fun z hz => fun e => pcmp_lt_ne (pcmp_trans g (o1 z hz)) e.symm] at this
        omega
    have ew : x.w = y.w := by
      have := h x.p
      rw [nsum, if_pos rfl, nsum, if_pos exy.symm, hx, exy, hy] at this
      exact BitVec.eq_of_toNat_eq (by omega)
    have e : x = y := by
      obtain ⟨a, b⟩ := x
      obtain ⟨c, d⟩ := y
      simp only at exy ew
      rw [exy, ew]
    subst e
    congr 1
    refine canon_unique ⟨o1', fun z hz => h1.pos z (by simp [hz])⟩ ⟨o2', fun z hz => h2.pos z (by simp [hz])⟩ fun q => ?_
    have := h q
    rw [nsum, nsum] at this
    omega

/-! What the reference's merging comes to -/
def nsumN (q : Pfx) : List Node → Nat
  | [] => 0
  | x :: r => (if x.p = q then x.g.toNat else 0) + nsumN q r
structure CanonN (l : List Node) : Prop where
  ord : l.Pairwise fun x y => x.p.cmp y.p < 0
  pos : ∀ x ∈ l, 0 < x.g.toNat
theorem nsumN_zero {q : Pfx} : ∀ {l : List Node}, (∀ x ∈ l, x.p ≠ q) → nsumN q l = 0
  | [], _ => rfl
  | x :: r, h => by
    rw [nsumN, if_neg (h x (by simp)), nsumN_zero fun y hy => h y (by simp [hy])]
theorem ins_mem {y : Node} : ∀ {l : List Node} {x : Node}, y ∈ ins l x ↔ y = x ∨ y ∈ l
  | [], x => by simp [ins]
  | z :: r, x => by
    rw [ins]
    split
    · simp only [List.mem_cons, ins_mem (l := r)]
      constructor
      · rintro (h | h | h)
        · exact .inr (.inl h)
        · exact .inl h
        · exact .inr (.inr h)
      · rintro (h | h | h)
        · exact .inr (.inl h)
        · exact .inl h
        · exact .inr (.inr h)
    · simp
theorem ins_sum (q : Pfx) : ∀ (l : List Node) (x : Node), nsumN q (ins l x) = (if x.p = q then x.g.toNat else 0) + nsumN q l
  | [], x => by simp [ins, nsumN]
  | y :: r, x => by
    rw [ins]
    split
    · rw [nsumN, ins_sum q r x, nsumN]; omega
    · rw [nsumN]
theorem ins_canon : ∀ {l : List Node} {x : Node}, CanonN l → 0 < x.g.toNat → (∀ y ∈ l, y.p ≠ x.p) → CanonN (ins l x)
  | [], x, _, hp, _ => ⟨by simp [ins], by simp [ins, hp]⟩
  | y :: r, x, h, hp, hne => by
    obtain ⟨o1, o2⟩ := List.pairwise_cons.1 h.ord
    have hr : CanonN r := ⟨o2, fun z hz => h.pos z (by simp [hz])⟩
    rw [ins]
    split
    · rename_i g
      have ih := ins_canon hr hp fun z hz => hne z (by simp [hz])
      refine ⟨List.pairwise_cons.2 ⟨fun z hz => ?_, ih.ord⟩, fun z hz => ?_⟩
      · rcases ins_mem.1 hz with rfl | hz
        · exact g
        · exact o1 z hz
      · rcases List.mem_cons.1 hz with rfl | hz
        · exact h.pos z (by simp)
        · exact ih.pos z hz
    · rename_i g
      have hxy : x.p.cmp y.p < 0 := by
        rcases pcmp_conn y.p x.p with e | e | e
        · exact absurd e g
        · exact absurd e (hne y (by simp))
        · exact e
      refine ⟨List.pairwise_cons.2 ⟨fun z hz => ?_, h.ord⟩, fun z hz => ?_⟩
      · rcases List.mem_cons.1 hz with rfl | hz
        · exact hxy
        · exact pcmp_trans hxy (o1 z hz)
      · rcases List.mem_cons.1 hz with rfl | hz
        · exact hp
        · exact h.pos z hz
theorem outOf_skip : ∀ (l : List Node) (k : Nat) (j : Int), j < k → outOf l k j = l
  | [], _, _, _ => rfl
  | x :: r, k, j, h => by rw [outOf, if_neg (by omega), outOf_skip r (k + 1) j (by omega)]
theorem outOf_at : ∀ (d : List Node) (x : Node) (r : List Node) (k : Nat), outOf (d ++ x :: r) k ((k + d.length : Nat) : Int) = d ++ r
  | [], x, r, k => by
    simp only [List.nil_append, List.length_nil, Nat.add_zero]
    rw [outOf, if_pos rfl, outOf_skip r (k + 1) k (by omega)]
  | y :: d, x, r, k => by
    have e : k + (y :: d).length = k + 1 + d.length := by simp; omega
    rw [List.cons_append, outOf, if_neg (by simp; omega), e, outOf_at d x r (k + 1)]
    rfl
theorem placeAt_neg {p : Pfx} : ∀ {l : List Node} {k : Nat}, placeAt p l k < 0 → ∀ x ∈ l, x.p ≠ p
  | [], _, _ => by simp
  | x :: r, k, h => by
    rw [placeAt] at h
    split at h
    · omega
    · rename_i g
      intro y hy
      rcases List.mem_cons.1 hy with rfl | hy
      · exact g
      · exact placeAt_neg h y hy
theorem placeAt_at {p : Pfx} : ∀ {l : List Node} {k n : Nat}, placeAt p l k = ((k + n : Nat) : Int) → n < l.length → ∃ d x r, l = d ++ x :: r ∧ d.length = n ∧ x.p = p
  | [], _, n, _, h => by simp at h
  | x :: r, k, n, h, hn => by
    rw [placeAt] at h
    split at h
    · rename_i g
      have : n = 0 := by omega
      subst this
      exact ⟨[], x, r, rfl, rfl, g⟩
    · have hn0 : n ≠ 0 := by
        rintro rfl
        have hp : 0 ≤ placeAt p r (k + 1) := by omega
        obtain ⟨m, h1, _⟩ := placeAt_get hp
        omega
      obtain ⟨m, rfl⟩ : ∃ m, n = m + 1 := ⟨n - 1, by omega⟩
      obtain ⟨d, y, s, h1, h2, h3⟩ := placeAt_at (l := r) (k := k + 1) (n := m) (by rw [h]; congr 1; omega) (by simpa using hn)
      exact ⟨x :: d, y, s, by rw [h1]; rfl, by simp [h2], h3⟩
theorem nsumN_append (q : Pfx) : ∀ l r : List Node, nsumN q (l ++ r) = nsumN q l + nsumN q r
  | [], r => by simp [nsumN]
  | x :: l, r => by rw [List.cons_append, nsumN, nsumN, nsumN_append q l r]; omega
theorem addN_canon {l : List Node} {p : Pfx} {w : BitVec 64} (h : CanonN l) (hw : 0 < w.toNat) (hb : nsumN p l + w.toNat < 18446744073709551616) :
    CanonN (addN l p w 0) ∧ ∀ q, nsumN q (addN l p w 0) = nsumN q l + if p = q then w.toNat else 0 := by
  unfold addN
  split
  · rename_i n hn
    have hn' : placeAt p l 0 = (n : Int) := hn
    obtain ⟨m, h1, h2⟩ := placeAt_get (p := p) (l := l) (k := 0) (by omega)
    have hmn : m = n := by omega
    subst hmn
    obtain ⟨d, x, r, rfl, hd, hx⟩ := placeAt_at h1 h2
    have e0 : ((m : Nat) : Int) = ((0 + d.length : Nat) : Int) := by rw [hd]; simp
    rw [show outOf (d ++ x :: r) 0 ((m : Nat) : Int) = d ++ r by rw [e0]; exact outOf_at d x r 0]
    have eg : (d ++ x :: r).getD m default = x := by rw [← hd]; simp [List.getD_eq_getElem?_getD]
    simp only [eg]
    obtain ⟨o1, o2, o3⟩ := List.pairwise_append.1 h.ord
    obtain ⟨o4, o5⟩ := List.pairwise_cons.1 o2
    have hdr : CanonN (d ++ r) := ⟨List.pairwise_append.2 ⟨o1, o5, fun a ha b hb => o3 a ha b (by simp [hb])⟩, fun z hz => h.pos z (by
      rcases List.mem_append.1 hz with hz | hz
      · simp [hz]
      · simp [hz])⟩
    have hne : ∀ y ∈ d ++ r, y.p ≠ x.p := fun y hy => by
      rcases List.mem_append.1 hy with hy | hy
      · exact pcmp_lt_ne (o3 y hy x (by simp))
      · exact fun e => pcmp_lt_ne (o4 y hy) e.symm
    have hsx : nsumN p (d ++ x :: r) = x.g.toNat := by
      rw [nsumN_append, nsumN, if_pos hx, nsumN_zero fun y hy => ?_, nsumN_zero fun y hy => ?_]
      · omega
      · rw [← hx]; exact hne y (by simp [hy])
      · rw [← hx]; exact hne y (by simp [hy])
    have hg : (x.g + w).toNat = x.g.toNat + w.toNat := by rw [BitVec.toNat_add]; omega
    refine ⟨ins_canon hdr (by simp only; omega) hne, fun q => ?_⟩
    rw [ins_sum]
    simp only
    rw [hg, nsumN_append, nsumN_append, nsumN, hx]
    split <;> omega
  · rename_i m hm
    have hneg := placeAt_neg (p := p) (l := l) (k := 0) (by rw [hm]; exact Int.negSucc_lt_zero m)
    refine ⟨ins_canon h hw hneg, fun q => ?_⟩
    rw [ins_sum]
    simp only
    omega
theorem merge_canon : ∀ (l : List Load) (a : List Node), CanonN a → (∀ q, nsumN q a + nsum q l < 18446744073709551616) →
    CanonN (merge l a) ∧ ∀ q, nsumN q (merge l a) = nsumN q a + nsum q l
  | [], a, h, _ => ⟨h, fun q => by simp [merge, nsum]⟩
  | x :: r, a, h, hb => by
    rw [merge]
    by_cases g : 0 < x.w.toNat
    · rw [if_pos g]
      obtain ⟨h1, h2⟩ := addN_canon (p := x.p) h g (by have := hb x.p; rw [nsum, if_pos rfl] at this; omega)
      obtain ⟨h3, h4⟩ := merge_canon r (addN a x.p x.w 0) h1 (fun q => by have := hb q; rw [nsum] at this; rw [h2]; omega)
      exact ⟨h3, fun q => by rw [h4, h2, nsum]; omega⟩
    · rw [if_neg g]
      have h0 : ∀ q, nsum q (x :: r) = nsum q r := fun q => by rw [nsum]; split <;> omega
      obtain ⟨h3, h4⟩ := merge_canon r a h (fun q => by have := hb q; rw [h0] at this; exact this)
      exact ⟨h3, fun q => by rw [h4, h0]⟩
/-- The reference's loads. -/
theorem rloads_canon (s : Space) (l : List Load) (hb : ntot l < 18446744073709551616) : Canon (RM.loads ⟨s, l⟩) ∧ ∀ q, nsum q (RM.loads ⟨s, l⟩) = nsum q l := by
  obtain ⟨h1, h2⟩ := merge_canon l [] ⟨.nil, by simp⟩ (fun q => by have := nsum_le q l; simp only [nsumN]; omega)
  unfold RM.loads
  simp only
  generalize merge l [] = a at h1 h2
  refine ⟨⟨?_, ?_⟩, fun q => ?_⟩
  · rw [List.pairwise_map]; exact h1.ord
  · intro x hx
    obtain ⟨y, hy, rfl⟩ := List.mem_map.1 hx
    exact h1.pos y hy
  · have h := h2 q
    simp only [nsumN] at h
    have : ∀ a : List Node, nsum q (a.map fun n => ⟨n.p, n.g⟩) = nsumN q a := by
      intro a
      induction a with
      | nil => rfl
      | cons x r ih => rw [List.map_cons, nsum, nsumN, ih]
    rw [this]; omega
theorem rloads_same {s : Space} {l : List Load} (h : Canon l) (hb : ntot l < 18446744073709551616) : RM.loads ⟨s, l⟩ = l := by
  obtain ⟨h1, h2⟩ := rloads_canon s l hb
  exact canon_unique h1 h h2
end Go.Pi.M
/- The plain law, second part: a model's entries. -/
namespace Go.Pi.M
open Go Go.Pi Go.Proofs Go.Sort
set_option maxRecDepth 10000

abbrev Ents := List (Pfx × BitVec 64 × Nat)
def etot (es : Ents) : Nat := (es.map fun e => e.2.1.toNat).sum
theorem wOf_cons (p : Pfx) (e : Pfx × BitVec 64 × Nat) (es : Ents) : wOf p (e :: es) = if p = e.1 then e.2.1 else wOf p es := by
  unfold wOf
  rw [List.find?_cons]
  by_cases h : p = e.1
  · simp [h]
  · simp [h]
theorem wOf_not {p : Pfx} : ∀ {es : Ents}, (∀ e ∈ es, e.1 ≠ p) → wOf p es = 0
  | [], _ => rfl
  | e :: r, h => by rw [wOf_cons, if_neg (fun g => h e (by simp) g.symm), wOf_not fun x hx => h x (by simp [hx])]
theorem wOf_mem : ∀ {es : Ents}, (es.map fun e => e.1).Nodup → ∀ e ∈ es, wOf e.1 es = e.2.1
  | [], _, _, h => by simp at h
  | x :: r, hn, e, he => by
    simp only [List.map_cons, List.nodup_cons] at hn
    rw [wOf_cons]
    rcases List.mem_cons.1 he with rfl | he
    · rw [if_pos rfl]
    · rw [if_neg, wOf_mem hn.2 e he]
      intro g
      exact hn.1 (by rw [← g]; exact List.mem_map_of_mem (f := fun e : Pfx × BitVec 64 × Nat => e.1) he)
theorem nsum_pick (es : Ents) (q : Pfx) : ∀ {ks : List Pfx}, ks.Nodup → nsum q (pick es ks) = if q ∈ ks then (wOf q es).toNat else 0
  | [], _ => by simp [pick, nsum]
  | k :: r, h => by
    obtain ⟨h1, h2⟩ := List.nodup_cons.1 h
    have ih := nsum_pick es q h2
    rw [pick]
    by_cases g : 0 < (wOf k es).toNat
    · rw [if_pos g, nsum, ih]
      simp only
      by_cases e : k = q
      · subst e
        rw [if_pos rfl, if_neg h1, if_pos (by simp)]; rfl
      · rw [if_neg e]
        simp only [List.mem_cons, Ne.symm e, false_or, Nat.zero_add]
    · rw [if_neg g, ih]
      by_cases e : k = q
      · subst e
        rw [if_neg h1, if_pos (by simp)]; omega
      · simp only [List.mem_cons, Ne.symm e, false_or]
theorem ntot_pick (es : Ents) : ∀ ks : List Pfx, ntot (pick es ks) = (ks.map fun k => (wOf k es).toNat).sum
  | [] => by simp [pick, ntot]
  | k :: r => by
    rw [pick, List.map_cons, List.sum_cons, ← ntot_pick es r]
    split
    · rw [ntot_cons]
    · omega
theorem keysW (es : Ents) : keysP (entW es) = es.map fun e => e.1 := by simp [keysP, entW]
theorem sum_perm {l r : List Nat} (h : l.Perm r) : l.sum = r.sum := h.sum_nat
theorem ntot_mloads {es : Ents} (hn : (es.map fun e => e.1).Nodup) : ntot (mloads es) = etot es := by
  unfold mloads etot
  rw [ntot_pick, sum_perm ((sortK_perm Pfx.cmp (keysP (entW es))).map _), keysW, List.map_map]
  congr 1
  apply List.map_congr_left
  intro e he
  simp only [Function.comp_apply]
  rw [wOf_mem hn e he]
theorem nsum_mloads {es : Ents} (hn : (es.map fun e => e.1).Nodup) (q : Pfx) : nsum q (mloads es) = (wOf q es).toNat := by
  unfold mloads
  have hp := sortK_perm Pfx.cmp (keysP (entW es))
  rw [keysW] at hp
  rw [keysW, nsum_pick es q (hp.nodup_iff.2 hn)]
  split
  · rfl
  · rename_i g
    rw [wOf_not]
    · rfl
    · intro e he h
      exact g (hp.mem_iff.2 (by rw [← h]; exact List.mem_map_of_mem (f := fun e : Pfx × BitVec 64 × Nat => e.1) he))
theorem pick_pos (es : Ents) (ks : List Pfx) : ∀ x ∈ pick es ks, 0 < x.w.toNat := fun x hx => (pick_mem es ks x hx).2.2
theorem pick_ord (es : Ents) : ∀ {ks : List Pfx}, ks.Pairwise (fun a b => a.cmp b < 0) → (pick es ks).Pairwise fun x y => x.p.cmp y.p < 0
  | [], _ => by simp [pick]
  | k :: r, h => by
    obtain ⟨h1, h2⟩ := List.pairwise_cons.1 h
    rw [pick]
    split
    · exact List.pairwise_cons.2 ⟨fun x hx => h1 _ (pick_mem es r x hx).1, pick_ord es h2⟩
    · exact pick_ord es h2
theorem sortK_strict {α : Type} {cf : α → α → Int} (hO : Tot cf) (hz : ∀ x y, cf x y = 0 → x = y) {l : List α} (hn : l.Nodup) : (sortK cf l).Pairwise fun a b => cf a b < 0 := by
  have tr : ∀ a b c : α, (!(ltOf cf) b a) = true → (!(ltOf cf) c b) = true → (!(ltOf cf) c a) = true := by
    intro a b c h1 h2
    simp only [Bool.not_eq_true'] at *
    exact hO.swo.ntrans _ _ _ h2 h1
  have to : ∀ a b : α, ((!(ltOf cf) b a) || (!(ltOf cf) a b)) = true := by
    intro a b
    simp only [ltOf, Bool.or_eq_true, Bool.not_eq_true', decide_eq_false_iff_not]
    have := hO.anti a b
    omega
  have h1 := List.pairwise_mergeSort tr to l
  have h2 : (sortK cf l).Nodup := (sortK_perm cf l).nodup_iff.2 hn
  have h3 := h1.and h2
  refine h3.imp fun {a b} ⟨g1, g2⟩ => ?_
  simp only [ltOf, Bool.not_eq_true', decide_eq_false_iff_not] at g1
  have a1 := hO.anti a b
  have a2 := hO.anti b a
  by_cases e : cf a b = 0
  · exact absurd (hz _ _ e) g2
  · omega
theorem mloads_canon {es : Ents} (hn : (es.map fun e => e.1).Nodup) : Canon (mloads es) :=
  ⟨pick_ord es (sortK_strict tot_pcmp (fun _ _ => pcmp_zero) (by rw [keysW]; exact hn)), pick_pos es _⟩

/-! '+=' -/
theorem find_key {p : Pfx} {es : Ents} {k : Nat} (h : es.findIdx? (fun e => decide (p = e.1)) = some k) : ∃ e d r, es = d ++ e :: r ∧ d.length = k ∧ e.1 = p ∧ ∀ x ∈ d, x.1 ≠ p := by
  rw [List.findIdx?_eq_some_iff_getElem] at h
  obtain ⟨hk, h1, h2⟩ := h
  refine ⟨es[k], es.take k, es.drop (k + 1), by rw [List.getElem_cons_drop, List.take_append_drop], by rw [List.length_take]; omega, by simpa using (by simpa using h1 : p = es[k].1).symm, fun x hx => ?_⟩
  obtain ⟨j, hj, rfl⟩ := List.mem_iff_getElem.1 hx
  have hjk : j < k := by rw [List.length_take] at hj; omega
  have := h2 j hjk
  simp at this
  rw [List.getElem_take]
  exact fun e => this e.symm
theorem find_none {p : Pfx} {es : Ents} (h : es.findIdx? (fun e => decide (p = e.1)) = none) : ∀ e ∈ es, e.1 ≠ p := by
  rw [List.findIdx?_eq_none_iff] at h
  intro e he g
  have := h e he
  simp [g] at this
theorem addW_cases (p : Pfx) (w : BitVec 64) (es : Ents) (clock : Nat) :
    (∃ e d r, es = d ++ e :: r ∧ e.1 = p ∧ (∀ x ∈ d, x.1 ≠ p) ∧ (addW p w es clock).1 = d ++ (e.1, e.2.1 + w, e.2.2) :: r) ∨ ((∀ e ∈ es, e.1 ≠ p) ∧ (addW p w es clock).1 = es ++ [(p, w, clock)]) := by
  unfold addW
  cases h : es.findIdx? (fun e => decide (p = e.1)) with
  | none => exact .inr ⟨find_none h, rfl⟩
  | some k =>
    obtain ⟨e, d, r, rfl, hd, he, hx⟩ := find_key h
    have hg : (d ++ e :: r)[k]? = some e := by rw [← hd]; simp
    refine .inl ⟨e, d, r, rfl, he, hx, ?_⟩
    simp only [hg]
    rw [← hd]
    simp
theorem wOf_append_skip {p : Pfx} : ∀ {d r : Ents}, (∀ x ∈ d, x.1 ≠ p) → wOf p (d ++ r) = wOf p r
  | [], _, _ => rfl
  | x :: d, r, h => by rw [List.cons_append, wOf_cons, if_neg (fun g => h x (by simp) g.symm), wOf_append_skip fun y hy => h y (by simp [hy])]
theorem wOf_change {q : Pfx} {e e' : Pfx × BitVec 64 × Nat} (h : e'.1 = e.1) (hq : q ≠ e.1) : ∀ d r : Ents, wOf q (d ++ e' :: r) = wOf q (d ++ e :: r)
  | [], r => by rw [List.nil_append, List.nil_append, wOf_cons, wOf_cons, h, if_neg hq, if_neg hq]
  | x :: d, r => by rw [List.cons_append, List.cons_append, wOf_cons, wOf_cons, wOf_change h hq d r]
theorem wOf_addW (p q : Pfx) (w : BitVec 64) (es : Ents) (clock : Nat) : wOf q (addW p w es clock).1 = wOf q es + if p = q then w else 0 := by
  rcases addW_cases p w es clock with ⟨e, d, r, rfl, he, hx, h⟩ | ⟨hx, h⟩
  · rw [h]
    by_cases g : p = q
    · subst g
      rw [if_pos rfl, wOf_append_skip hx, wOf_append_skip hx, wOf_cons, wOf_cons, if_pos he.symm]
      simp only
      rw [if_pos he.symm]
    · rw [if_neg g]
      have := wOf_change (q := q) (e := e) (e' := (e.1, e.2.1 + w, e.2.2)) rfl (by rw [he]; exact fun x => g x.symm) d r
      rw [this]
      simp
  · rw [h]
    by_cases g : p = q
    · subst g
      rw [if_pos rfl, wOf_append_skip hx, wOf_not hx, wOf_cons]
      simp
    · rw [if_neg g]
      have : ∀ l : Ents, wOf q (l ++ [(p, w, clock)]) = wOf q l := by
        intro l
        induction l with
        | nil => rw [List.nil_append, wOf_cons, if_neg (fun e => g e.symm)]
        | cons x l ih => rw [List.cons_append, wOf_cons, wOf_cons, ih]
      rw [this]
      simp
theorem keys_addW {p : Pfx} {w : BitVec 64} {es : Ents} {clock : Nat} (hn : (es.map fun e => e.1).Nodup) : ((addW p w es clock).1.map fun e => e.1).Nodup ∧ ∀ e ∈ (addW p w es clock).1, e.1 = p ∨ ∃ e' ∈ es, e'.1 = e.1 := by
  rcases addW_cases p w es clock with ⟨e, d, r, rfl, he, hx, h⟩ | ⟨hx, h⟩
  · rw [h]
    refine ⟨by simpa using hn, fun x hx => ?_⟩
    rcases List.mem_append.1 hx with hx | hx
    · exact .inr ⟨x, by simp [hx], rfl⟩
    · rcases List.mem_cons.1 hx with rfl | hx
      · exact .inl he
      · exact .inr ⟨x, by simp [hx], rfl⟩
  · rw [h]
    refine ⟨?_, fun x hx => ?_⟩
    · rw [List.map_append, List.nodup_append]
      refine ⟨hn, by simp, fun a ha b hb => ?_⟩
      obtain ⟨e, he, rfl⟩ := List.mem_map.1 ha
      simp at hb
      rw [hb]
      exact hx e he
    · rcases List.mem_append.1 hx with hx | hx
      · exact .inr ⟨x, hx, rfl⟩
      · rw [List.mem_singleton.1 hx]; exact .inl rfl
theorem etot_addW (p : Pfx) (w : BitVec 64) (es : Ents) (clock : Nat) (h : etot es + w.toNat < 18446744073709551616) : etot (addW p w es clock).1 = etot es + w.toNat := by
  rcases addW_cases p w es clock with ⟨e, d, r, rfl, he, hx, h'⟩ | ⟨hx, h'⟩
  · rw [h']
    unfold etot at h ⊢
    simp only [List.map_append, List.map_cons, List.sum_append, List.sum_cons] at h ⊢
    rw [BitVec.toNat_add]
    omega
  · rw [h']
    unfold etot
    simp
theorem wOf_le (q : Pfx) : ∀ es : Ents, (wOf q es).toNat ≤ etot es
  | [] => by simp [wOf, etot]
  | e :: r => by
    have := wOf_le q r
    rw [wOf_cons]
    unfold etot at this ⊢
    rw [List.map_cons, List.sum_cons]
    split <;> omega
end Go.Pi.M
/- The plain law, third part: putting and joining. -/
namespace Go.Pi.M
open Go Go.Pi Go.Proofs Go.Sort
set_option maxRecDepth 10000

structure Mod (s : Space) (K : List Pfx) (n : BitVec 64) (es : Ents) : Prop where
  keys : (es.map fun e => e.1).Nodup
  inK : ∀ e ∈ es, e.1 ∈ K
  leafs : ∀ e ∈ es, s.right e.1 = true ∧ e.1.a0 = 0 ∧ e.1.a1 = 0
  tot : n.toNat = etot es
  bound : n.toNat ≤ 4611686018427387904
/-- The program's model and the reference's tell the same. -/
structure Good (s : Space) (K : List Pfx) (n : BitVec 64) (es : Ents) (L : List Load) : Prop extends Mod s K n es where
  loads : L = mloads es

theorem Mod.more {s : Space} {K : List Pfx} {n : BitVec 64} {es : Ents} (h : Mod s K n es) (p : Pfx) : Mod s (p :: K) n es := { h with inK := fun e he => List.mem_cons_of_mem _ (h.inK e he) }
theorem nodup_len {α : Type} : ∀ {l K : List α}, l.Nodup → (∀ x ∈ l, x ∈ K) → l.length ≤ K.length
  | [], _, _, _ => by simp
  | x :: l, K, hn, hs => by
    obtain ⟨h1, h2⟩ := List.nodup_cons.1 hn
    obtain ⟨K1, K2, rfl⟩ := List.append_of_mem (hs x (by simp))
    have := nodup_len (l := l) (K := K1 ++ K2) h2 fun y hy => by
      have h3 := hs y (by simp [hy])
      have h4 : y ≠ x := fun e => h1 (e ▸ hy)
      simp only [List.mem_append, List.mem_cons] at h3 ⊢
      rcases h3 with h3 | h3 | h3
      · exact .inl h3
      · exact absurd h3 h4
      · exact .inr h3
    simp only [List.length_append, List.length_cons] at this ⊢
    omega
theorem Mod.len {s : Space} {K : List Pfx} {n : BitVec 64} {es : Ents} (h : Mod s K n es) : es.length ≤ K.length := by
  have := nodup_len h.keys (K := K) fun p hp => by
    obtain ⟨e, he, rfl⟩ := List.mem_map.1 hp
    exact h.inK e he
  simpa using this
theorem lenAt_range {d : Dim} {l : Int} (h : 0 ≤ d.lenAt l) : 0 ≤ l ∧ l ≤ d.depth ∧ d.right = true := by
  unfold Dim.lenAt at h
  split at h
  · omega
  · rename_i g
    refine ⟨by omega, by omega, ?_⟩
    cases e : d.right with
    | true => rfl
    | false => exact absurd (.inl e) g
theorem on_range {d : Dim} {l : Int} {k : Key} (h : d.on l k = true) : 0 ≤ l ∧ l ≤ d.depth := by
  unfold Dim.on at h
  simp only [Bool.and_eq_true, decide_eq_true_eq] at h
  have := lenAt_range h.1.1.1
  exact ⟨this.1, this.2.1⟩
theorem right_range {s : Space} {p : Pfx} (h : s.right p = true) : (0 ≤ p.a0 ∧ p.a0 ≤ 128) ∧ 0 ≤ p.a1 ∧ p.a1 ≤ 128 := by
  have hd0 := depth_bound s.d0
  have hd1 := depth_bound s.d1
  unfold Space.right at h
  simp only [Bool.and_eq_true] at h
  have h0 := on_range h.1.2
  refine ⟨by omega, ?_⟩
  have h2 := h.2
  split at h2
  · simp at h2; omega
  · have := on_range h2; omega
theorem leaf_iff {s : Space} {p : Pfx} (h : s.right p = true) : (0 < w64 (p.a0 + p.a1)) ↔ (p.a0 ≠ 0 ∨ p.a1 ≠ 0) := by
  have := right_range h
  rw [w64_id (by omega) (by omega)]
  omega
theorem room_nat {n : BitVec 64} (h : n.toNat ≤ 4611686018427387904) : (room n).toNat = 4611686018427387904 - n.toNat := by
  rw [← room_def, BitVec.toNat_sub]
  simp only [BitVec.toNat_ofNat]
  omega
theorem Good.total {s : Space} {K : List Pfx} {n : BitVec 64} {es : Ents} {L : List Load} (h : Good s K n es L) : ntot L = n.toNat ∧ total L = n := by
  have e : ntot L = n.toNat := by rw [h.loads, ntot_mloads h.keys, h.tot]
  have hb := h.bound
  exact ⟨e, BitVec.eq_of_toNat_eq (by rw [total_nat L (by omega), e])⟩
theorem Good.canon {s : Space} {K : List Pfx} {n : BitVec 64} {es : Ents} {L : List Load} (h : Good s K n es L) : Canon L := by rw [h.loads]; exact mloads_canon h.keys
theorem Good.again {s : Space} {K : List Pfx} {n : BitVec 64} {es : Ents} {L : List Load} (h : Good s K n es L) : RM.loads ⟨s, L⟩ = L :=
  rloads_same h.canon (by have := h.total.1; have := h.bound; omega)

theorem Mod.add {s : Space} {K : List Pfx} {n : BitVec 64} {es : Ents} (h : Mod s K n es) {p : Pfx} {w : BitVec 64} {clock : Nat} (hp : s.right p = true ∧ p.a0 = 0 ∧ p.a1 = 0) (hK : p ∈ K) (hw : n.toNat + w.toNat ≤ 4611686018427387904) :
    putE s n p w = 0 ∧ Mod s K (n + w) (addW p w es clock).1 ∧ (n + w).toNat = n.toNat + w.toNat ∧ ∀ q, (wOf q (addW p w es clock).1).toNat = (wOf q es).toNat + if p = q then w.toNat else 0 := by
  have hn : (n + w).toNat = n.toNat + w.toNat := by rw [BitVec.toNat_add]; omega
  have ht := h.tot
  obtain ⟨k1, k2⟩ := keys_addW (p := p) (w := w) (clock := clock) h.keys
  refine ⟨?_, ⟨k1, fun e he => ?_, fun e he => ?_, ?_, by omega⟩, hn, fun q => ?_⟩
  · unfold putE
    rw [if_neg, if_neg]
    · rw [room_nat h.bound]; omega
    · rintro (g | g)
      · rw [hp.1] at g; cases g
      · rw [leaf_iff hp.1] at g; omega
  · rcases k2 e he with g | ⟨e', he', g⟩
    · rw [g]; exact hK
    · rw [← g]; exact h.inK e' he'
  · rcases k2 e he with g | ⟨e', he', g⟩
    · rw [g]; exact hp
    · rw [← g]; exact h.leafs e' he'
  · rw [hn, etot_addW p w es clock (by omega), ht]
  · rw [wOf_addW]
    have := wOf_le q es
    split
    · rw [BitVec.toNat_add]; omega
    · simp

theorem put_good {s : Space} {K : List Pfx} {n : BitVec 64} {es : Ents} {L : List Load} (h : Good s K n es L) (p : Pfx) (w : BitVec 64) (clock : Nat) :
    putE s n p w = (RM.put ⟨s, L⟩ p w).2 ∧ Good s (p :: K) (putS s n es clock p w).1 (putS s n es clock p w).2.1 (RM.loads (RM.put ⟨s, L⟩ p w).1) := by
  obtain ⟨t1, t2⟩ := h.total
  have hag := h.again
  unfold RM.put
  simp only [t2]
  by_cases g1 : s.right p = false ∨ p.a0 ≠ 0 ∨ p.a1 ≠ 0
  · have e : putE s n p w = 1 := by
      unfold putE
      rw [if_pos]
      rcases g1 with g | g
      · exact .inl g
      · cases e : s.right p with
        | false => exact .inl rfl
        | true => exact .inr ((leaf_iff e).2 g)
    have e2 : putS s n es clock p w = (n, es, clock) := by unfold putS; rw [if_neg (by rw [e]; decide)]
    rw [if_pos g1, e, e2]
    simp only [hag]
    exact ⟨trivial, { h.toMod.more p with loads := h.loads }⟩
  · rw [if_neg g1]
    have hr : s.right p = true := by
      cases e : s.right p with
      | true => rfl
      | false => exact absurd (.inl e) g1
    have hz : p.a0 = 0 ∧ p.a1 = 0 := by omega
    by_cases g2 : (room n).toNat < w.toNat
    · have e : putE s n p w = 13 := by
        unfold putE
        rw [if_neg, if_pos g2]
        rintro (g | g)
        · rw [hr] at g; cases g
        · rw [leaf_iff hr] at g; omega
      have e2 : putS s n es clock p w = (n, es, clock) := by unfold putS; rw [if_neg (by rw [e]; decide)]
      rw [if_pos g2, e, e2]
      simp only [hag]
      exact ⟨trivial, { h.toMod.more p with loads := h.loads }⟩
    · rw [if_neg g2]
      have hb := h.bound
      rw [room_nat hb] at g2
      obtain ⟨a1, a2, a3, a4⟩ := (h.toMod.more p).add (p := p) (w := w) (clock := clock) ⟨hr, hz⟩ (by simp) (by omega)
      have e2 : putS s n es clock p w = (n + w, addW p w es clock) := by unfold putS; rw [if_pos a1]
      rw [a1, e2]
      simp only
      have hnt : ntot (L ++ [⟨p, w⟩]) < 18446744073709551616 := by
        rw [ntot_append, ntot_cons, t1]; simp [ntot]; omega
      obtain ⟨c1, c2⟩ := rloads_canon s (L ++ [⟨p, w⟩]) hnt
      refine ⟨trivial, { a2 with loads := canon_unique c1 (mloads_canon a2.keys) fun q => ?_ }⟩
      rw [c2, nsum_mloads a2.keys, a4, nsum_append, h.loads, nsum_mloads h.keys]
      simp [nsum]

theorem putAll_mod {s : Space} {K : List Pfx} : ∀ (l : List Load) (n : BitVec 64) (es : Ents) (clock : Nat), Mod s K n es → (∀ x ∈ l, (s.right x.p = true ∧ x.p.a0 = 0 ∧ x.p.a1 = 0) ∧ x.p ∈ K) → n.toNat + ntot l ≤ 4611686018427387904 →
    Mod s K (putAll s l (n, es, clock)).1 (putAll s l (n, es, clock)).2.1 ∧ ∀ q, (wOf q (putAll s l (n, es, clock)).2.1).toNat = (wOf q es).toNat + nsum q l
  | [], n, es, clock, h, _, _ => ⟨h, fun q => by simp [putAll, nsum]⟩
  | x :: r, n, es, clock, h, hl, hb => by
    rw [ntot_cons] at hb
    obtain ⟨hx, hK⟩ := hl x (by simp)
    obtain ⟨a1, a2, a3, a4⟩ := h.add (p := x.p) (w := x.w) (clock := clock) hx hK (by omega)
    have e2 : putS s n es clock x.p x.w = (n + x.w, addW x.p x.w es clock) := by unfold putS; rw [if_pos a1]
    have e3 : putAll s (x :: r) (n, es, clock) = putAll s r (n + x.w, (addW x.p x.w es clock).1, (addW x.p x.w es clock).2) := by rw [putAll, e2]
    obtain ⟨b1, b2⟩ := putAll_mod r (n + x.w) (addW x.p x.w es clock).1 (addW x.p x.w es clock).2 a2 (fun y hy => hl y (by simp [hy])) (by rw [a3]; omega)
    rw [e3]
    exact ⟨b1, fun q => by rw [b2, a4, nsum]; omega⟩

theorem mloads_leafs {s : Space} {K : List Pfx} {n : BitVec 64} {es : Ents} (h : Mod s K n es) : ∀ x ∈ mloads es, (s.right x.p = true ∧ x.p.a0 = 0 ∧ x.p.a1 = 0) ∧ x.p ∈ K := by
  intro x hx
  obtain ⟨e, he, h3⟩ := mloads_mem hx
  rw [← h3]
  exact ⟨h.leafs e he, h.inK e he⟩
theorem join_good {s : Space} {K : List Pfx} {n n' : BitVec 64} {es es' : Ents} {L L' : List Load} (h : Good s K n es L) (h' : Good s K n' es' L') (clock : Nat) :
    joinE s n s n' = (RM.join ⟨s, L⟩ ⟨s, L'⟩).2 ∧ ∀ x, x = (if joinE s n s n' = 0 then putAll s (mloads es') (n, es, clock) else (n, es, clock)) → Good s K x.1 x.2.1 (RM.loads (RM.join ⟨s, L⟩ ⟨s, L'⟩).1) := by
  obtain ⟨t1, t2⟩ := h.total
  obtain ⟨t1', t2'⟩ := h'.total
  have hag := h.again
  have hb := h.bound
  have hb' := h'.bound
  have hs : (n + n').toNat = n.toNat + n'.toNat := by rw [BitVec.toNat_add]; omega
  have hf : full.toNat = 4611686018427387904 := by decide
  unfold RM.join
  simp only [t2, t2', ne_eq, not_true_eq_false, if_false, hs, hf]
  have e : joinE s n s n' = if 4611686018427387904 < n.toNat + n'.toNat then 13 else 0 := by
    unfold joinE
    rw [if_neg (by simp), room_nat hb']
    by_cases g : 4611686018427387904 < n.toNat + n'.toNat
    · rw [if_pos g, if_pos (by omega)]
    · rw [if_neg g, if_neg (by omega)]
  rw [e]
  by_cases g : 4611686018427387904 < n.toNat + n'.toNat
  · rw [if_pos g, if_pos g]
    refine ⟨rfl, ?_⟩
    rintro x rfl
    rw [if_neg (by decide)]
    simp only [hag]
    exact h
  · rw [if_neg g, if_neg g]
    refine ⟨rfl, ?_⟩
    rintro x rfl
    rw [if_pos rfl]
    have hm := ntot_mloads h'.keys
    obtain ⟨b1, b2⟩ := putAll_mod (mloads es') n es clock h.toMod (mloads_leafs h'.toMod) (by rw [hm, ← h'.tot]; omega)
    have hnt : ntot (L ++ L') < 18446744073709551616 := by rw [ntot_append]; omega
    obtain ⟨c1, c2⟩ := rloads_canon s (L ++ L') hnt
    refine { b1 with loads := canon_unique c1 (mloads_canon b1.keys) fun q => ?_ }
    rw [c2, nsum_mloads b1.keys, b2, nsum_append, h.loads, nsum_mloads h.keys, h'.loads]

/-! What a model's weights over a prefix come to -/
def overN (s : Space) (p : Pfx) (es : Ents) : Nat := (es.map fun e => if s.over p e.1 = true then e.2.1.toNat else 0).sum
theorem sumMet_nat (s : Space) (p : Pfx) : ∀ (es : Ents) (a : BitVec 64), (sumMet s p es a).toNat = (a.toNat + overN s p es) % 18446744073709551616
  | [], a => by
    have : a.toNat < 18446744073709551616 := a.isLt
    simp only [sumMet, overN, List.map_nil, List.sum_nil]; omega
  | e :: r, a => by
    rw [sumMet, sumMet_nat s p r]
    unfold overN
    rw [List.map_cons, List.sum_cons]
    split
    · rw [BitVec.toNat_add]; omega
    · omega
theorem sumOver_nat (s : Space) (p : Pfx) : ∀ (l : List Load) (a : BitVec 64), (sumOver s p l a).toNat = (a.toNat + (l.map fun x => if s.over p x.p = true then x.w.toNat else 0).sum) % 18446744073709551616
  | [], a => by
    have : a.toNat < 18446744073709551616 := a.isLt
    simp only [sumOver, List.map_nil, List.sum_nil]; omega
  | x :: r, a => by
    rw [sumOver, sumOver_nat s p r, List.map_cons, List.sum_cons]
    split
    · rw [BitVec.toNat_add]; omega
    · omega
theorem over_pick (s : Space) (p : Pfx) (es : Ents) : ∀ ks : List Pfx, ((pick es ks).map fun x => if s.over p x.p = true then x.w.toNat else 0).sum = (ks.map fun k => if s.over p k = true then (wOf k es).toNat else 0).sum
  | [] => by simp [pick]
  | k :: r => by
    rw [pick, List.map_cons, List.sum_cons, ← over_pick s p es r]
    split
    · rw [List.map_cons, List.sum_cons]
    · split <;> omega
theorem Good.weight {s : Space} {K : List Pfx} {n : BitVec 64} {es : Ents} {L : List Load} (h : Good s K n es L) (p : Pfx) : sumMet s p es 0#64 = RM.weight ⟨s, L⟩ p := by
  apply BitVec.eq_of_toNat_eq
  unfold RM.weight
  simp only
  rw [sumMet_nat, sumOver_nat, h.loads]
  congr 2
  unfold mloads
  rw [over_pick, sum_perm ((sortK_perm Pfx.cmp (keysP (entW es))).map _), keysW, List.map_map]
  unfold overN
  congr 1
  apply List.map_congr_left
  intro e he
  simp only [Function.comp_apply]
  rw [wOf_mem h.keys e he]
end Go.Pi.M
/- The plain law, fourth part: what is over the loads. -/
namespace Go.Pi.M
open Go Go.Pi Go.Proofs Go.Sort
set_option maxRecDepth 10000

/-! A prefix cut higher up is a prefix. -/
theorem cutTo_right {k : Key} {m : Int} (hk : k.right = true) (h0 : 0 ≤ m) (hm : m ≤ k.len ∨ k.kind = 3) (hw : m ≤ width k.kind) :
    (k.cutTo m).right = true ∧ (k.cutTo m).kind = k.kind ∧ ((k.cutTo m).len = m ∨ (k.kind = 3 ∧ (k.cutTo m).len < m)) := by
  unfold Key.cutTo
  by_cases h3 : k.kind = 3
  · rw [if_pos h3]
    have hr : (splitP k.path).isSome = true ∧ k = ofPath k.path := by
      unfold Key.right at hk
      rw [if_neg (by omega), if_pos h3] at hk
      simpa using hk
    have hlen : k.len = (labels k.path).length := by
      conv => lhs; rw [hr.2]
      rfl
    have hl8 := labels_len k.path
    have hj : splitP (topP k.path (min (max m 0) k.len)) = some ((labels k.path).take (min (max (min (max m 0) k.len) 0) (labels k.path).length).toNat) := by
      unfold topP
      exact split_join (fun x hx => labels_are k.path x (List.mem_of_mem_take hx)) (by rw [List.length_take]; omega)
    generalize topP k.path (min (max m 0) k.len) = q at hj
    have hlq : ((labels q).length : Int) = min m k.len := by
      unfold labels
      rw [hj]
      simp only [Option.getD_some, List.length_take]
      omega
    refine ⟨?_, h3.symm, ?_⟩
    · unfold Key.right
      rw [if_neg (by simp [ofPath]), if_pos (by simp [ofPath])]
      simp [ofPath, hj]
    · show ((labels q).length : Int) = m ∨ (k.kind = 3 ∧ ((labels q).length : Int) < m)
      rw [hlq]
      by_cases g : m ≤ k.len
      · left; omega
      · right; exact ⟨h3, by omega⟩
  · rw [if_neg h3]
    have hm' : m ≤ k.len := by omega
    have e : min (max m 0) k.len = m := by omega
    rw [e]
    refine ⟨?_, rfl, .inl rfl⟩
    have hkk : k.kind = 1 ∨ k.kind = 2 := by
      unfold Key.right at hk
      by_cases g : k.kind = 1 ∨ k.kind = 2
      · exact g
      · rw [if_neg g, if_neg h3] at hk; cases hk
    unfold Key.right
    rw [if_pos (by exact hkk)]
    simp only [decide_eq_true_eq]
    refine ⟨h0, hw, ?_⟩
    simp only [ofBits, Key.bits, Wide.top, Wide.and, BitVec.and_assoc, BitVec.and_self]
theorem lenAt_le {d : Dim} {l m : Int} (h : 0 ≤ d.lenAt l) (hl : l ≤ m) (hm : m ≤ d.depth) : 0 ≤ d.lenAt m ∧ d.lenAt m ≤ d.lenAt l ∧ d.lenAt m ≤ width d.kind := by
  obtain ⟨h1, h2, h3⟩ := lenAt_range h
  have e1 : d.lenAt l = max 0 (width d.kind - l * d.step) := by unfold Dim.lenAt; rw [if_neg (by rw [h3]; simp; omega)]
  have e2 : d.lenAt m = max 0 (width d.kind - m * d.step) := by unfold Dim.lenAt; rw [if_neg (by rw [h3]; simp; omega)]
  have hs := (dright_iff.1 h3).2
  have hmul : l * d.step ≤ m * d.step := Int.mul_le_mul_of_nonneg_right hl (by omega)
  have hpos : 0 ≤ m * d.step := Int.mul_nonneg (by omega) (by omega)
  have hw : 0 ≤ width d.kind := by omega
  rw [e1, e2]
  omega
theorem on_cut {d : Dim} {l m : Int} {k : Key} (h : d.on l k = true) (hl : l ≤ m) (hm : m ≤ d.depth) : d.on m (d.cut m k) = true := by
  unfold Dim.on at h
  simp only [Bool.and_eq_true, decide_eq_true_eq] at h
  obtain ⟨⟨⟨h1, h2⟩, h3⟩, h4⟩ := h
  obtain ⟨g1, g2, g3⟩ := lenAt_le h1 hl hm
  have ec : d.cut m k = k.cutTo (d.lenAt m) := by
    unfold Dim.cut
    rw [if_neg (by omega)]
    unfold Key.cut
    rw [if_pos h3]
  obtain ⟨c1, c2, c3⟩ := cutTo_right h3 g1 (by omega) (by rw [h2]; exact g3)
  rw [ec]
  unfold Dim.on
  simp only [Bool.and_eq_true, decide_eq_true_eq]
  refine ⟨⟨⟨g1, by rw [c2, h2]⟩, c1⟩, ?_⟩
  rcases c3 with c | ⟨c, c'⟩
  · exact .inl c
  · exact .inr ⟨by rw [c2]; exact c, c'⟩
theorem right_up {s : Space} {p : Pfx} (h : s.right p = true) {a b : Int} (ha : p.a0 ≤ a ∧ a ≤ s.d0.depth) (hb : p.a1 ≤ b ∧ b ≤ s.d1.depth) : s.right ⟨a, b, s.d0.cut a p.k0, s.d1.cut b p.k1⟩ = true := by
  have hs := right_sound h
  have h' := h
  unfold Space.right at h'
  simp only [Bool.and_eq_true] at h'
  obtain ⟨⟨_, h2⟩, h3⟩ := h'
  unfold Space.right
  simp only [Bool.and_eq_true]
  refine ⟨⟨hs, on_cut h2 ha.1 ha.2⟩, ?_⟩
  by_cases hn : s.n = 1
  · rw [if_pos hn]
    have hd := sound_one hs hn
    have h1 := right_one h hn
    have hdep : s.d1.depth = 0 := by rw [hd]; decide
    simp only [Bool.and_eq_true, decide_eq_true_eq]
    refine ⟨by omega, ?_⟩
    rw [hd, noDim_cut]
  · rw [if_neg hn] at h3 ⊢
    exact on_cut h3 hb.1 hb.2
theorem up_at {s : Space} {p : Pfx} (h : s.right p = true) {a b : Int} (ha : p.a0 ≤ a ∧ a ≤ s.d0.depth) (hb : p.a1 ≤ b ∧ b ≤ s.d1.depth) : s.up p a b = ⟨a, b, s.d0.cut a p.k0, s.d1.cut b p.k1⟩ := by
  unfold Space.up
  rw [if_neg (by rw [h]; simp; omega)]
  unfold Space.orNone
  rw [if_pos (right_up h ha hb)]

/-! Members -/
theorem putP_mem {q : Pfx} : ∀ {l : List Pfx} {x : Pfx}, q ∈ putP l x ↔ q = x ∨ q ∈ l
  | [], x => by simp [putP]
  | y :: r, x => by
    rw [putP]
    split
    · simp only [List.mem_cons, putP_mem (l := r)]
      constructor
      · rintro (h | h | h)
        · exact .inr (.inl h)
        · exact .inl h
        · exact .inr (.inr h)
      · rintro (h | h | h)
        · exact .inr (.inl h)
        · exact .inl h
        · exact .inr (.inr h)
    · split
      · rename_i g
        subst g
        simp
      · simp
theorem putP_ord : ∀ {l : List Pfx} {x : Pfx}, l.Pairwise (fun a b => a.cmp b < 0) → (putP l x).Pairwise fun a b => a.cmp b < 0
  | [], x, _ => by simp [putP]
  | y :: r, x, h => by
    obtain ⟨o1, o2⟩ := List.pairwise_cons.1 h
    rw [putP]
    split
    · rename_i g
      refine List.pairwise_cons.2 ⟨fun z hz => ?_, putP_ord o2⟩
      rcases putP_mem.1 hz with rfl | hz
      · exact g
      · exact o1 z hz
    · split
      · exact h
      · rename_i g1 g2
        have hxy : x.cmp y < 0 := by
          rcases pcmp_conn y x with e | e | e
          · exact absurd e g1
          · exact absurd e g2
          · exact e
        refine List.pairwise_cons.2 ⟨fun z hz => ?_, h⟩
        rcases List.mem_cons.1 hz with rfl | hz
        · exact hxy
        · exact pcmp_trans hxy (o1 z hz)
def atOK (s : Space) (a b : Int) (x : Load) : Prop := 0 < x.w.toNat ∧ ((s.up x.p a b).a0 = a ∧ (s.up x.p a b).a1 = b) ∧ s.right (s.up x.p a b) = true
theorem atNode_mem (s : Space) (a b : Int) (q : Pfx) : ∀ (l : List Load) (acc : List Pfx), q ∈ atNode s a b l acc ↔ q ∈ acc ∨ ∃ x ∈ l, atOK s a b x ∧ q = s.up x.p a b
  | [], acc => by simp [atNode]
  | x :: r, acc => by
    rw [atNode, atNode_mem s a b q r]
    by_cases g : atOK s a b x
    · have g' := g
      unfold atOK at g'
      rw [if_pos g', putP_mem]
      constructor
      · rintro ((h | h) | ⟨y, hy, h⟩)
        · exact .inr ⟨x, by simp, g, h⟩
        · exact .inl h
        · exact .inr ⟨y, by simp [hy], h⟩
      · rintro (h | ⟨y, hy, h⟩)
        · exact .inl (.inr h)
        · rcases List.mem_cons.1 hy with rfl | hy
          · exact .inl (.inl h.2)
          · exact .inr ⟨y, hy, h⟩
    · have g' := g
      unfold atOK at g'
      rw [if_neg g']
      constructor
      · rintro (h | ⟨y, hy, h⟩)
        · exact .inl h
        · exact .inr ⟨y, by simp [hy], h⟩
      · rintro (h | ⟨y, hy, h⟩)
        · exact .inl h
        · rcases List.mem_cons.1 hy with rfl | hy
          · exact absurd h.1 g
          · exact .inr ⟨y, hy, h⟩
theorem atNode_ord (s : Space) (a b : Int) : ∀ (l : List Load) (acc : List Pfx), acc.Pairwise (fun p q => p.cmp q < 0) → (atNode s a b l acc).Pairwise fun p q => p.cmp q < 0
  | [], acc, h => h
  | x :: r, acc, h => by
    rw [atNode]
    split
    · exact atNode_ord s a b r _ (putP_ord h)
    · exact atNode_ord s a b r _ h
theorem overNodes_mem (s : Space) (l : List Load) (q : Pfx) : ∀ N : List (Int × Int), q ∈ overNodes s l N ↔ ∃ ab ∈ N, ∃ x ∈ l, atOK s ab.1 ab.2 x ∧ q = s.up x.p ab.1 ab.2
  | [] => by simp [overNodes]
  | (a, b) :: r => by
    rw [overNodes, List.mem_append, overNodes_mem s l q r, atNode_mem]
    constructor
    · rintro ((h | h) | ⟨ab, hab, h⟩)
      · simp at h
      · exact ⟨(a, b), by simp, h⟩
      · exact ⟨ab, by simp [hab], h⟩
    · rintro ⟨ab, hab, h⟩
      rcases List.mem_cons.1 hab with rfl | hab
      · exact .inl (.inr h)
      · exact .inr ⟨ab, hab, h⟩

/-! The nodes' order -/
def nodeLt (x y : Int × Int) : Prop := x.1 + x.2 < y.1 + y.2 ∨ (x.1 + x.2 = y.1 + y.2 ∧ x.1 < y.1)
theorem row_ord (h a : Int) (n : Nat) : (rowFrom h a n).Pairwise nodeLt := by
  unfold rowFrom
  rw [List.pairwise_map]
  refine List.pairwise_lt_range.imp fun {x y} hxy => ?_
  unfold nodeLt
  simp only
  omega
theorem rows_ord (s : Space) : ∀ (n : Nat) (h : Int), (s.rows h n).Pairwise nodeLt
  | 0, _ => .nil
  | n + 1, h => by
    rw [Space.rows, List.pairwise_append]
    refine ⟨row_ord _ _ _, rows_ord s n (h + 1), fun x hx y hy => ?_⟩
    have h1 := row_mem hx
    have h2 := rows_mem hy
    unfold nodeLt
    omega
theorem by_of_node {p q : Pfx} (h : nodeLt (p.a0, p.a1) (q.a0, q.a1)) (hp : w64 (p.a0 + p.a1) = p.a0 + p.a1) (hq : w64 (q.a0 + q.a1) = q.a0 + q.a1) : p.byHeight q < 0 := by
  unfold nodeLt at h
  simp only at h
  unfold Pfx.byHeight
  rw [hp, hq]
  rcases h with h | ⟨h1, h2⟩
  · have : cmpI (p.a0 + p.a1) (q.a0 + q.a1) = -1 := by unfold cmpI; rw [if_pos h]
    simp [orL, this]
  · have e1 : cmpI (p.a0 + p.a1) (q.a0 + q.a1) = 0 := by unfold cmpI; rw [if_neg (by omega), if_neg (by omega)]
    have e2 : cmpI p.a0 q.a0 = -1 := by unfold cmpI; rw [if_pos h2]
    have e3 : p.cmp q = -1 := by
      rw [pcmp_L]
      unfold Pfx.cmpL
      simp [orL, e2]
    simp [orL, e1, e3]
theorem by_of_cmp {p q : Pfx} (h0 : p.a0 = q.a0) (h1 : p.a1 = q.a1) (h : p.cmp q < 0) : p.byHeight q < 0 := by
  unfold Pfx.byHeight
  rw [h0, h1]
  have e1 : ∀ a : Int, cmpI a a = 0 := fun a => by unfold cmpI; rw [if_neg (by omega), if_neg (by omega)]
  have e2 : ¬ p.cmp q = 0 := by omega
  simp [orL, e1, e2, h]
theorem overNodes_ord (s : Space) (l : List Load) : ∀ N : List (Int × Int), N.Pairwise nodeLt → (∀ ab ∈ N, w64 (ab.1 + ab.2) = ab.1 + ab.2) → (overNodes s l N).Pairwise fun p q => p.byHeight q < 0
  | [], _, _ => .nil
  | (a, b) :: r, h, hw => by
    obtain ⟨o1, o2⟩ := List.pairwise_cons.1 h
    rw [overNodes, List.pairwise_append]
    have hat : ∀ p ∈ atNode s a b l [], p.a0 = a ∧ p.a1 = b := fun p hp => by
      rcases (atNode_mem s a b p l []).1 hp with hp | ⟨x, _, g, rfl⟩
      · simp at hp
      · exact g.2.1
    refine ⟨?_, overNodes_ord s l r o2 (fun ab hab => hw ab (by simp [hab])), fun p hp q hq => ?_⟩
    · refine (List.pairwise_iff_forall_sublist.2 fun {p q} hpq => ?_)
      have hmem := hpq.subset
      have hp := hat p (hmem (by simp))
      have hq := hat q (hmem (by simp))
      exact by_of_cmp (hp.1.trans hq.1.symm) (hp.2.trans hq.2.symm) (List.pairwise_iff_forall_sublist.1 (atNode_ord s a b l [] .nil) hpq)
    · have h1 := hat p hp
      obtain ⟨ab, hab, x, _, g, rfl⟩ := (overNodes_mem s l q r).1 hq
      have h2 := o1 ab hab
      refine by_of_node ?_ ?_ ?_
      · rw [h1.1, h1.2, g.2.1.1, g.2.1.2]; exact h2
      · rw [h1.1, h1.2]; exact hw (a, b) (by simp)
      · rw [g.2.1.1, g.2.1.2]; exact hw ab (by simp [hab])

theorem keys_addI {p q : Pfx} {x : Cnt × Nat} : (q ∈ (addI p x.1 x.2).1.map fun e => e.1) ↔ q = p ∨ q ∈ x.1.map fun e => e.1 := by
  unfold addI
  cases h : x.1.findIdx? (fun e => decide (p = e.1)) with
  | none =>
    simp only [List.map_append, List.map_cons, List.map_nil, List.mem_append, List.mem_singleton]
    exact or_comm
  | some k =>
    rw [List.findIdx?_eq_some_iff_getElem] at h
    obtain ⟨hk, h1, _⟩ := h
    simp only [List.getElem?_eq_getElem hk]
    have e : (x.1.set k (x.1[k].1, w64 (x.1[k].2.1 + 1), x.1[k].2.2)).map (fun e => e.1) = x.1.map fun e => e.1 := by
      rw [List.map_set]
      apply List.ext_getElem?
      intro j
      rw [List.getElem?_set]
      split
      · rename_i hj; subst hj
        rw [if_pos (by simpa using hk)]
        simp [hk]
      · rfl
    rw [e]
    constructor
    · exact fun h => .inr h
    · rintro (rfl | h)
      · have : q = x.1[k].1 := by simpa using h1
        rw [this]
        exact List.mem_map_of_mem (List.getElem_mem hk)
      · exact h
theorem nodup_addI {p : Pfx} {x : Cnt × Nat} (h : (x.1.map fun e => e.1).Nodup) : ((addI p x.1 x.2).1.map fun e => e.1).Nodup := by
  unfold addI
  cases h' : x.1.findIdx? (fun e => decide (p = e.1)) with
  | none =>
    rw [List.findIdx?_eq_none_iff] at h'
    simp only [List.map_append, List.map_cons, List.map_nil]
    rw [List.nodup_append]
    refine ⟨h, by simp, fun a ha b hb => ?_⟩
    obtain ⟨e, he, rfl⟩ := List.mem_map.1 ha
    have := h' e he
    simp at hb this
    rw [hb]
    exact fun g => this g.symm
  | some k =>
    rw [List.findIdx?_eq_some_iff_getElem] at h'
    obtain ⟨hk, h1, _⟩ := h'
    simp only [List.getElem?_eq_getElem hk]
    have e : (x.1.set k (x.1[k].1, w64 (x.1[k].2.1 + 1), x.1[k].2.2)).map (fun e => e.1) = x.1.map fun e => e.1 := by
      rw [List.map_set]
      apply List.ext_getElem?
      intro j
      rw [List.getElem?_set]
      split
      · rename_i hj; subst hj
        rw [if_pos (by simpa using hk)]
        simp [hk]
      · rfl
    rw [e]; exact h
theorem keys_addAll {q : Pfx} : ∀ {l : List Pfx} {x : Cnt × Nat}, (q ∈ (addAll l x).1.map fun e => e.1) ↔ q ∈ l ∨ q ∈ x.1.map fun e => e.1
  | [], x => by simp [addAll]
  | p :: r, x => by
    rw [addAll, keys_addAll (l := r), keys_addI, List.mem_cons]
    constructor
    · rintro (h | h | h)
      · exact .inl (.inr h)
      · exact .inl (.inl h)
      · exact .inr h
    · rintro ((h | h) | h)
      · exact .inr (.inl h)
      · exact .inl h
      · exact .inr (.inr h)
theorem nodup_addAll : ∀ {l : List Pfx} {x : Cnt × Nat}, (x.1.map fun e => e.1).Nodup → ((addAll l x).1.map fun e => e.1).Nodup
  | [], _, h => h
  | p :: r, x, h => nodup_addAll (l := r) (nodup_addI h)
theorem keys_addOver {s : Space} {q : Pfx} : ∀ {l : List Load} {x : Cnt × Nat}, (q ∈ (addOver s l x).1.map fun e => e.1) ↔ (∃ y ∈ l, q ∈ s.all y.p) ∨ q ∈ x.1.map fun e => e.1
  | [], x => by simp [addOver]
  | y :: r, x => by
    rw [addOver, keys_addOver (l := r), keys_addAll]
    constructor
    · rintro (⟨z, hz, h⟩ | h | h)
      · exact .inl ⟨z, by simp [hz], h⟩
      · exact .inl ⟨y, by simp, h⟩
      · exact .inr h
    · rintro (⟨z, hz, h⟩ | h)
      · rcases List.mem_cons.1 hz with rfl | hz
        · exact .inr (.inl h)
        · exact .inl ⟨z, hz, h⟩
      · exact .inr (.inr h)
theorem nodup_addOver {s : Space} : ∀ {l : List Load} {x : Cnt × Nat}, (x.1.map fun e => e.1).Nodup → ((addOver s l x).1.map fun e => e.1).Nodup
  | [], _, h => h
  | y :: r, x, h => nodup_addOver (l := r) (nodup_addAll h)
theorem strict_unique {α : Type} {cf : α → α → Int} (hO : Tot cf) : ∀ {l r : List α}, l.Pairwise (fun a b => cf a b < 0) → r.Pairwise (fun a b => cf a b < 0) → (∀ q, q ∈ l ↔ q ∈ r) → l = r
  | [], [], _, _, _ => rfl
  | [], y :: r, _, _, h => by have := (h y).2 (by simp); simp at this
  | x :: l, [], _, _, h => by have := (h x).1 (by simp); simp at this
  | x :: l, y :: r, h1, h2, h => by
    obtain ⟨o1, o1'⟩ := List.pairwise_cons.1 h1
    obtain ⟨o2, o2'⟩ := List.pairwise_cons.1 h2
    have irr : ∀ a b, cf a b < 0 → a ≠ b := fun a b hab e => by subst e; rw [hO.refl] at hab; omega
    have exy : x = y := by
      rcases List.mem_cons.1 ((h x).1 (by simp)) with g | g
      · exact g
      · rcases List.mem_cons.1 ((h y).2 (by simp)) with g' | g'
        · exact g'.symm
        · have a := o2 x g
          have b := o1 y g'
          have := hO.anti x y
          omega
    subst exy
    congr 1
    refine strict_unique hO o1' o2' fun q => ⟨fun hq => ?_, fun hq => ?_⟩
    · rcases List.mem_cons.1 ((h q).1 (by simp [hq])) with g | g
      · exact absurd g.symm (irr _ _ (o1 q hq))
      · exact g
    · rcases List.mem_cons.1 ((h q).2 (by simp [hq])) with g | g
      · exact absurd g.symm (irr _ _ (o2 q hq))
      · exact g
theorem Good.over {s : Space} {K : List Pfx} {n : BitVec 64} {es : Ents} {L : List Load} (hs : s.sound = true) (h : Good s K n es L) : mover s es = RM.over ⟨s, L⟩ := by
  have hL := h.loads
  have hlf := mloads_leafs h.toMod
  have hpos : ∀ x ∈ L, 0 < x.w.toNat := h.canon.pos
  unfold mover RM.over
  simp only
  rw [← hL] at hlf ⊢
  have htop : s.top.a0 = s.d0.depth ∧ s.top.a1 = s.d1.depth := by unfold Space.top; rw [if_pos hs]; exact ⟨rfl, rfl⟩
  have hn10 : s.nodes10 = s.nodes := if_pos hs
  rw [hn10]
  have hb := top_bound s
  refine strict_unique tot_byHeight (sortK_strict tot_byHeight (fun _ _ => byHeight_zero) ?_) (overNodes_ord s L s.nodes (rows_ord s _ _) fun ab hab => ?_) fun q => ?_
  · have := nodup_addOver (s := s) (l := L) (x := ([], 0)) (by simp)
    have hk : keysP (entI (addOver s L ([], 0)).1) = (addOver s L ([], 0)).1.map fun e => e.1 := by simp [keysP, entI]
    rw [hk]; exact this
  · have := nodes_mem hab
    exact w64_id (by omega) (by omega)
  · rw [(sortK_perm Pfx.byHeight _).mem_iff, overNodes_mem]
    have hk : keysP (entI (addOver s L ([], 0)).1) = (addOver s L ([], 0)).1.map fun e => e.1 := by simp [keysP, entI]
    rw [hk, keys_addOver]
    constructor
    · rintro (⟨x, hx, hq⟩ | hq)
      · obtain ⟨⟨hr, ha0, ha1⟩, _⟩ := hlf x hx
        unfold Space.all at hq
        rw [if_pos hr] at hq
        unfold Space.overs at hq
        obtain ⟨ab, hab, rfl⟩ := List.mem_map.1 hq
        have hab' := (List.mem_filter.1 hab).1
        have hm := nodes_mem hab'
        have hu := up_at (a := ab.1) (b := ab.2) hr (by omega) (by omega)
        refine ⟨ab, hab', x, hx, ⟨hpos x hx, ?_, ?_⟩, hu.symm⟩
        · rw [hu]; exact ⟨rfl, rfl⟩
        · rw [hu]; exact right_up hr (by omega) (by omega)
      · simp at hq
    · rintro ⟨ab, hab, x, hx, hok, rfl⟩
      obtain ⟨⟨hr, ha0, ha1⟩, _⟩ := hlf x hx
      have hm := nodes_mem hab
      have hu := up_at (a := ab.1) (b := ab.2) hr (by omega) (by omega)
      refine .inl ⟨x, hx, ?_⟩
      unfold Space.all
      rw [if_pos hr, hu]
      unfold Space.overs
      refine List.mem_map.2 ⟨ab, List.mem_filter.2 ⟨hab, ?_⟩, rfl⟩
      simp; omega
end Go.Pi.M
namespace Go.Pi.M
open Go Go.Pi Go.Proofs Go.Sort
set_option maxRecDepth 10000

structure Deed where
  kind : Int
  at_ : Int
  load : Load
  deriving DecidableEq, Inhabited
def Deed.cells (x : Deed) : List PV := [i x.kind, i x.at_, i x.load.p.a0, i x.load.p.a1, i x.load.p.k0.kind, i x.load.p.k0.len, u x.load.p.k0.hi, u x.load.p.k0.lo, tx x.load.p.k0.path, i x.load.p.k1.kind, i x.load.p.k1.len, u x.load.p.k1.hi, u x.load.p.k1.lo, tx x.load.p.k1.path, u x.load.w]
def Deed.pv (x : Deed) : PV := .agg x.cells
/-- The reference's two models in one variable. -/
def xs2 (s : Space) (L0 L1 : List Load) : List PV := [i s.n, i s.d0.kind, i s.d0.side, i s.d0.step, i s.d1.kind, i s.d1.side, i s.d1.step, loads L0, i s.n, i s.d0.kind, i s.d0.side, i s.d0.step, i s.d1.kind, i s.d1.side, i s.d1.step, loads L1]
structure Two (H : List PObj) (s : Space) (K : List Pfx) (n0 n1 : BitVec 64) (es0 es1 : Ents) (L0 L1 : List Load) (c0 c1 : Nat) : Prop where
  m0 : MAt H 1 0 s n0 es0 c0
  m1 : MAt H 3 2 s n1 es1 c1
  g0 : Good s K n0 es0 L0
  g1 : Good s K n1 es1 L1
  x : objCells H 4 = some (xs2 s L0 L1)

theorem Good.more {s : Space} {K : List Pfx} {n : BitVec 64} {es : Ents} {L : List Load} (h : Good s K n es L) (p : Pfx) : Good s (p :: K) n es L := { h.toMod.more p with loads := h.loads }
theorem Two.of {H : List PObj} {s : Space} {K : List Pfx} {n0 n1 : BitVec 64} {es0 es1 : Ents} {L0 L1 : List Load} {c0 c1 : Nat} (h4 : 4 < H.length) (m0 : MAt H 1 0 s n0 es0 c0) (m1 : MAt H 3 2 s n1 es1 c1) (g0 : Good s K n0 es0 L0) (g1 : Good s K n1 es1 L1) :
    Two (H.set 4 (.cells (xs2 s L0 L1))) s K n0 n1 es0 es1 L0 L1 c0 c1 :=
  ⟨m0.move (List.getElem?_set_ne (by decide)) (List.getElem?_set_ne (by decide)), m1.move (List.getElem?_set_ne (by decide)) (List.getElem?_set_ne (by decide)), g0, g1, objCells_set h4⟩
theorem v_storeTL {d : Option Nat} {s : St} {id off n : Nat} {l : List Load} : storeTSt d s (.ptr id off) (loads l) n = (objCells s.H id).bind fun cs => if off < cs.length then
    some ((St.mk (upd s.t n (loads l).strip) (s.H.set id (.cells (cs.set off (loads l))))).set d .junk) else none := rfl
theorem addW_inv {s : Space} {x : BitVec 64 × Ents × Nat} {p : Pfx} {w : BitVec 64} (hp : p.ok) (h : (x.2.1.map fun e => e.2.2).Nodup ∧ (∀ e ∈ x.2.1, e.2.2 < x.2.2) ∧ ∀ e ∈ x.2.1, e.1.ok) :
    ((putS s x.1 x.2.1 x.2.2 p w).2.1.map fun e => e.2.2).Nodup ∧ (∀ e ∈ (putS s x.1 x.2.1 x.2.2 p w).2.1, e.2.2 < (putS s x.1 x.2.1 x.2.2 p w).2.2) ∧ ∀ e ∈ (putS s x.1 x.2.1 x.2.2 p w).2.1, e.1.ok := by
  unfold putS
  split
  · have ⟨a, b⟩ := addW_births (p := p) (w := w) h.1 h.2.1
    exact ⟨a, b, addW_oks hp h.2.2⟩
  · exact h
theorem putAll_inv {s : Space} : ∀ (l : List Load) (x : BitVec 64 × Ents × Nat), (∀ y ∈ l, y.p.ok) → ((x.2.1.map fun e => e.2.2).Nodup ∧ (∀ e ∈ x.2.1, e.2.2 < x.2.2) ∧ ∀ e ∈ x.2.1, e.1.ok) →
    ((putAll s l x).2.1.map fun e => e.2.2).Nodup ∧ (∀ e ∈ (putAll s l x).2.1, e.2.2 < (putAll s l x).2.2) ∧ ∀ e ∈ (putAll s l x).2.1, e.1.ok
  | [], _, _, h => h
  | y :: r, x, hl, h => by
    rw [putAll]
    exact putAll_inv r _ (fun z hz => hl z (by simp [hz])) (addW_inv (hl y (by simp)) h)
/-- There is a memory behind a join. -/
theorem join_ex {H : List PObj} {a mid clock : Nat} {s : Space} {n : BitVec 64} {es : Ents} (h : MAt H a mid s n es clock)
    {a' mid' clock' : Nat} {s' : Space} {n' : BitVec 64} {es' : Ents} (h' : MAt H a' mid' s' n' es' clock') (hl : es.length + es'.length < 1000) :
    ∃ r H', r = i (joinE s n s' n') ∧ H.length ≤ H'.length ∧ (∀ id, id < H.length → id ≠ a → id ≠ mid → H'[id]? = H[id]?) ∧
      ∃ x : BitVec 64 × Ents × Nat, x = (if joinE s n s' n' = 0 then putAll s (mloads es') (n, es, clock) else (n, es, clock)) ∧ MAt H' a mid s x.1 x.2.1 x.2.2 := by
  have hne : mid ≠ a := by
    rintro rfl
    have := h.obj
    simp [objCells, h.map] at this
  generalize hx : (if joinE s n s' n' = 0 then putAll s (mloads es') (n, es, clock) else (n, es, clock)) = x
  have hinv : (x.2.1.map fun e => e.2.2).Nodup ∧ (∀ e ∈ x.2.1, e.2.2 < x.2.2) ∧ (∀ e ∈ x.2.1, e.1.ok) ∧ x.2.1.length ≤ 1000 := by
    subst hx
    have h0 : (es.map fun e => e.2.2).Nodup ∧ (∀ e ∈ es, e.2.2 < clock) ∧ ∀ e ∈ es, e.1.ok := ⟨h.nod, h.births, h.oks⟩
    have hml := mloads_len es'
    split
    · have h1 := putAll_inv (s := s) (mloads es') (n, es, clock) (fun y hy => by
        obtain ⟨e, he, h3⟩ := mloads_mem hy
        rw [← h3]; exact h'.oks e he) h0
      have h2 := putAll_len s (mloads es') (n, es, clock)
      simp only at h2
      exact ⟨h1.1, h1.2.1, h1.2.2, by omega⟩
    · exact ⟨h0.1, h0.2.1, h0.2.2, h.len⟩
  refine ⟨_, (H.set mid (.map x.2.2 (ents (entW x.2.1)))).set a (.cells (modelCells s x.1 mid)), rfl, by simp, fun id _ i1 i2 => ?_, x, rfl, ?_, ?_, hinv.1, hinv.2.1, hinv.2.2.1, hinv.2.2.2⟩
  · rw [List.getElem?_set_ne (Ne.symm i1), List.getElem?_set_ne (Ne.symm i2)]
  · exact objCells_set (by rw [List.length_set]; exact h.alt.1)
  · rw [List.getElem?_set_ne (Ne.symm hne), List.getElem?_set_self h.alt.2]
theorem put_space (s : Space) (L : List Load) (p : Pfx) (w : BitVec 64) : ∃ L', (RM.put ⟨s, L⟩ p w).1 = ⟨s, L'⟩ ∧ L'.length ≤ L.length + 1 := by
  unfold RM.put
  split
  · exact ⟨L, rfl, by omega⟩
  · split
    · exact ⟨L, rfl, by omega⟩
    · exact ⟨_, rfl, by simp⟩
theorem join_space (s : Space) (L L' : List Load) : ∃ M, (RM.join ⟨s, L⟩ ⟨s, L'⟩).1 = ⟨s, M⟩ ∧ M.length ≤ L.length + L'.length := by
  unfold RM.join
  split
  · exact ⟨L, rfl, by omega⟩
  · split
    · exact ⟨L, rfl, by omega⟩
    · exact ⟨_, rfl, by simp⟩
theorem tells_spec (s : Space) (l : List Deed) (p : Pfx) (o : Bool) (hl : l.length ≤ 2000000) (hok : ∀ d ∈ l, d.load.p.ok) (hp : p.ok) :
    Sum Tryz.prog 3 [s.pv, .slc o (l.map Deed.pv), p.pv] [] fun r _ => r = bo true := by
  refine Sum.run mixed is3 (by simp [n3]) ?_
  simp [c3, r3, rules, Space.pv, Space.cells, Pfx.pv, Pfx.cells, s_slcM]
  cases hs : s.sound
  · refine callK_by (new_nil s [] hs) ⟨_, _, rfl, rfl⟩ ?_
    rintro _ _ ⟨rfl, rfl⟩
    simp [rules]
    refine callK_by (new_nil s [] hs) ⟨_, _, rfl, rfl⟩ ?_
    rintro _ _ ⟨rfl, rfl⟩
    simp [rules]
    refine pureK_by (sound9_spec s) ?_
    rw [hs]
    simp [rules]
    refine pureK_by alive_spec ?_
    simp [rules, q_bo]
  refine callK_by (new_spec s [] hs) ⟨_, _, rfl, rfl⟩ ?_
  rintro _ H1 ⟨rfl, hH1⟩
  simp only [List.nil_append, List.length_nil] at hH1
  subst hH1
  simp [rules]
  refine callK_by (new_spec s _ hs) ⟨_, _, rfl, rfl⟩ ?_
  rintro _ H2 ⟨rfl, hH2⟩
  simp only [List.cons_append, List.nil_append, List.length_cons, List.length_nil, Nat.reduceAdd] at hH2
  subst hH2
  simp [rules]
  refine pureK_by (sound9_spec s) ?_
  rw [hs]
  simp [rules, q_bo]
  have hst : Two [PObj.map 0 [], PObj.cells (modelCells s 0#64 0), PObj.map 0 [], PObj.cells (modelCells s 0#64 2), PObj.cells (xs2 s [] [])] s [] 0#64 0#64 [] [] [] [] 0 0 := by
    have g : Good s [] 0#64 [] [] := { keys := by simp, inK := by simp, leafs := by simp, tot := by simp [etot], bound := by simp, loads := by simp [mloads, keysP, entW, sortK, pick] }
    exact ⟨⟨rfl, rfl, by simp, by simp, by simp, by simp⟩, ⟨rfl, rfl, by simp, by simp, by simp, by simp⟩, g, g, rfl⟩
  refine pwp_loop mixed (fun k st => ∃ d r K n0 n1 es0 es1 L0 L1 c0 c1, l = d ++ r ∧ k = r.length ∧ K.length ≤ d.length ∧ d.length ≤ 24 ∧ st.t 1 = .slc (o && l.isEmpty) (l.map Deed.pv) ∧ st.t 3 = .ept s.cells 0 ∧ st.t 5 = .ept p.cells 0 ∧
    st.t 7 = .ept [.ptr 1 0, .ptr 3 0] 0 ∧ st.t 8 = .ptr 4 0 ∧ st.t 9 = i d.length ∧ Two st.H s K n0 n1 es0 es1 L0 L1 c0 c1) l.length
    ⟨[], l, [], 0#64, 0#64, [], [], [], [], 0, 0, by simp [rules, Space.cells, Pfx.cells]; exact hst⟩ ?_
  clear hst
  rintro k ⟨t, H⟩ ⟨d, r, K, n0, n1, es0, es1, L0, L1, c0, c1, h1, h2, hK, hd, t1, t3, t5, t7, t8, t9, hT⟩
  simp only at t1 t3 t5 t7 t8 t9 hT
  have hlen : l.length = d.length + r.length := by rw [h1]; simp
  have hx := hT.x
  simp only [xs2] at hx
  have hE0 : es0.length ≤ 25 := by have := hT.g0.toMod.len; omega
  have hE1 : es1.length ≤ 25 := by have := hT.g1.toMod.len; omega
  have hL0 : L0.length ≤ 1000 := by rw [hT.g0.loads]; have := mloads_len es0; omega
  have hL1 : L1.length ≤ 1000 := by rw [hT.g1.loads]; have := mloads_len es1; omega
  have hO0 : ∀ x ∈ L0, x.p.ok := fun x hx => by
    rw [hT.g0.loads] at hx
    obtain ⟨e, he, h3⟩ := mloads_mem hx
    rw [← h3]; exact hT.m0.oks e he
  have hO1 : ∀ x ∈ L1, x.p.ok := fun x hx => by
    rw [hT.g1.loads] at hx
    obtain ⟨e, he, h3⟩ := mloads_mem hx
    rw [← h3]; exact hT.m1.oks e he
  cases r with
  | nil =>
    have e1 : ¬ (d.length : Int) < l.length := by rw [h1]; simp
    simp [rules, q_bo, t1, t3, t5, t7, t8, t9, e1, s_slcM]
    refine pureK_by alive_spec ?_
    simp [rules, q_bo, t5, t7, t8, hx, loads_strip, loads_one, loads_cells, Pfx.cells]
    refine callK_by (same_spec hT.m0 hE0 ⟨s, L0⟩ p hp hL0 hO0 rfl hT.g0.total.2.symm (hT.g0.weight p) (by rw [hT.g0.again]; exact hT.g0.loads.symm) (hT.g0.over hs)) ⟨_, H, rfl, .refl _⟩ ?_
    rintro _ H5 ⟨rfl, k5⟩
    have hx5 : objCells H5 4 = objCells H 4 := objCells_eq (k5.2 4 (objCells_lt hT.x))
    rw [hx] at hx5
    simp [rules, q_bo, t5, t7, t8, hx5, loads_strip, loads_one, loads_cells, Pfx.cells]
    refine callK_by (same_spec (hT.m1.ext k5) hE1 ⟨s, L1⟩ p hp hL1 hO1 rfl hT.g1.total.2.symm (hT.g1.weight p) (by rw [hT.g1.again]; exact hT.g1.loads.symm) (hT.g1.over hs)) ⟨_, H5, rfl, .refl _⟩ ?_
    rintro _ H6 ⟨rfl, k6⟩
    simp [rules, q_bo]
  | cons x r =>
    have e1 : (d.length : Int) < l.length := by rw [h1]; simp; omega
    have e2 : elemAt (l.map Deed.pv) d.length = some x.pv := elemAt_mid h1 rfl
    by_cases e3 : (d.length : Int) < 24
    · simp [rules, q_bo, t1, t3, t5, t7, t8, t9, e1, e2, e3, s_slcM, Deed.pv, Deed.cells]
      refine pureK_by (placeOf_spec x.at_) ?_
      have hpl : placeOf x.at_ = 0 ∨ placeOf x.at_ = 1 := by unfold placeOf; split <;> simp
      have hxo : x.load.p.ok := hok x (by rw [h1]; simp)
      rcases hpl with hpl | hpl
      · rw [hpl]
        simp [rules, q_bo, t1, t3, t5, t7, t8, t9, e1, e2, e3, s_slcM, Deed.pv, Deed.cells]
        by_cases k0 : x.kind = 0
        · simp [rules, q_bo, t1, t3, t5, t7, t8, t9, e1, e2, e3, s_slcM, Deed.pv, Deed.cells, k0]
          refine callK_by (mput_at hT.m0 x.load.p hxo x.load.w (by omega)) ⟨_, _, rfl, putH_at hT.m0 x.load.p hxo x.load.w (by omega)⟩ ?_
          rintro _ H2 ⟨rfl, q1, q2, q3⟩
          obtain ⟨z1, z2⟩ := put_good hT.g0 x.load.p x.load.w c0
          have hx2 : objCells H2 4 = objCells H 4 := objCells_eq (q3 4 (by decide) (by decide))
          rw [hx] at hx2
          have hmB : MAt H2 3 2 s n1 es1 c1 := hT.m1.move (q3 3 (by decide) (by decide)) (q3 2 (by decide) (by decide))
          simp [rules, q_bo, t1, t3, t5, t7, t8, t9, e1, e2, e3, s_slcM, Deed.pv, Deed.cells, k0, hx2, loads_strip, loads_one, loads_cells]
          obtain ⟨L', y1, y2⟩ := put_space s L0 x.load.p x.load.w
          have hsp := put9_spec ⟨s, L0⟩ x.load.p x.load.w (by simp only; omega) hxo
          rw [y1, ← z1] at hsp
          rw [y1] at z2
          refine pureK_by hsp ?_
          generalize putE s n0 x.load.p x.load.w = E
          have h4 : 4 < H2.length := objCells_lt (cs := _) hx2
          simp [rules, q_bo, t1, t3, t5, t7, t8, t9, hx2, h4, objCells_set, loads_strip, loads_one, loads_cells, RM.pv, RM.cells]
          refine pureK_by (rloads_spec ⟨s, L'⟩ (by simp only; omega)) ?_
          simp (disch := omega) [rules, q_bo, t1, t3, t5, t7, t8, t9, h4, objCells_set, v_storeTL, loads_strip, loads_one, loads_cells, w64_id]
          exact ⟨r.length, by simp [h2], d ++ [x], r, by simp [h1], rfl, x.load.p :: K, by simp; omega, by simp; omega, by simp, _, _, _, _, _, _, _, _, .of h4 q1 hmB z2 (hT.g1.more _)⟩
        · by_cases k1 : x.kind = 1
          · simp (disch := omega) [rules, q_bo, t1, t3, t5, t7, t8, t9, e1, e2, e3, s_slcM, Deed.pv, Deed.cells, w64_id, k0, k1]
            refine callK_by (mjoin_spec hT.m0 hT.m1 (by omega)) (join_ex hT.m0 hT.m1 (by omega)) ?_
            rintro _ H2 ⟨rfl, q1, q2, X, hX, q4⟩
            obtain ⟨z1, z2⟩ := join_good hT.g0 hT.g1 c0
            have z2 := z2 X hX
            have h4' : 4 < H.length := objCells_lt hT.x
            have hx2 : objCells H2 4 = objCells H 4 := objCells_eq (q2 4 h4' (by decide) (by decide))
            rw [hx] at hx2
            have hmB : MAt H2 3 2 s n1 es1 c1 := hT.m1.move (q2 3 (by omega) (by decide) (by decide)) (q2 2 (by omega) (by decide) (by decide))
            simp (disch := omega) [rules, q_bo, t1, t3, t5, t7, t8, t9, e1, e2, e3, s_slcM, Deed.pv, Deed.cells, w64_id, k0, k1, hx2, loads_strip, loads_one, loads_cells]
            obtain ⟨L', y1, y2⟩ := join_space s L0 L1
            have hsp := join9_spec ⟨s, L0⟩ ⟨s, L1⟩ (by simp only; omega) (by simp only; omega)
            rw [y1, ← z1] at hsp
            rw [y1] at z2
            refine pureK_by hsp ?_
            generalize joinE s n0 s n1 = E at hX
            have h4 : 4 < H2.length := objCells_lt (cs := _) hx2
            simp [rules, q_bo, t1, t3, t5, t7, t8, t9, hx2, h4, objCells_set, loads_strip, loads_one, loads_cells, RM.pv, RM.cells]
            refine pureK_by (rloads_spec ⟨s, L'⟩ (by simp only; omega)) ?_
            simp (disch := omega) [rules, q_bo, t1, t3, t5, t7, t8, t9, h4, objCells_set, v_storeTL, loads_strip, loads_one, loads_cells, w64_id]
            exact ⟨r.length, by simp [h2], d ++ [x], r, by simp [h1], rfl, K, by simp; omega, by simp; omega, by simp, _, _, _, _, _, _, _, _, .of h4 q4 hmB z2 hT.g1⟩
          · by_cases k2 : x.kind = 2
            · simp (disch := omega) [rules, q_bo, t1, t3, t5, t7, t8, t9, e1, e2, e3, s_slcM, Deed.pv, Deed.cells, w64_id, k0, k1, k2]
              refine callK_by (mjoin_spec hT.m0 hT.m0 (by omega)) (join_ex hT.m0 hT.m0 (by omega)) ?_
              rintro _ H2 ⟨rfl, q1, q2, X, hX, q4⟩
              obtain ⟨z1, z2⟩ := join_good hT.g0 hT.g0 c0
              have z2 := z2 X hX
              have h4' : 4 < H.length := objCells_lt hT.x
              have hx2 : objCells H2 4 = objCells H 4 := objCells_eq (q2 4 h4' (by decide) (by decide))
              rw [hx] at hx2
              have hmB : MAt H2 3 2 s n1 es1 c1 := hT.m1.move (q2 3 (by omega) (by decide) (by decide)) (q2 2 (by omega) (by decide) (by decide))
              simp (disch := omega) [rules, q_bo, t1, t3, t5, t7, t8, t9, e1, e2, e3, s_slcM, Deed.pv, Deed.cells, w64_id, k0, k1, k2, hx2, loads_strip, loads_one, loads_cells]
              obtain ⟨L', y1, y2⟩ := join_space s L0 L0
              have hsp := join9_spec ⟨s, L0⟩ ⟨s, L0⟩ (by simp only; omega) (by simp only; omega)
              rw [y1, ← z1] at hsp
              rw [y1] at z2
              refine pureK_by hsp ?_
              generalize joinE s n0 s n0 = E at hX
              have h4 : 4 < H2.length := objCells_lt (cs := _) hx2
              simp [rules, q_bo, t1, t3, t5, t7, t8, t9, hx2, h4, objCells_set, loads_strip, loads_one, loads_cells, RM.pv, RM.cells]
              refine pureK_by (rloads_spec ⟨s, L'⟩ (by simp only; omega)) ?_
              simp (disch := omega) [rules, q_bo, t1, t3, t5, t7, t8, t9, h4, objCells_set, v_storeTL, loads_strip, loads_one, loads_cells, w64_id]
              exact ⟨r.length, by simp [h2], d ++ [x], r, by simp [h1], rfl, K, by simp; omega, by simp; omega, by simp, _, _, _, _, _, _, _, _, .of h4 q4 hmB z2 hT.g1⟩
            · have h4 : 4 < H.length := objCells_lt hT.x
              simp [rules, q_bo, t1, t3, t5, t7, t8, t9, e1, e2, e3, s_slcM, Deed.pv, Deed.cells, k0, k1, k2, hx, h4, objCells_set, loads_strip, loads_one, loads_cells]
              refine pureK_by (rloads_spec ⟨s, L0⟩ (by simp only; omega)) ?_
              simp (disch := omega) [rules, q_bo, t1, t3, t5, t7, t8, t9, hx, h4, objCells_set, v_storeTL, loads_strip, loads_one, loads_cells, w64_id]
              exact ⟨r.length, by simp [h2], d ++ [x], r, by simp [h1], rfl, K, by simp; omega, by simp; omega, by simp, _, _, _, _, _, _, _, _, .of h4 hT.m0 hT.m1 (by rw [hT.g0.again]; exact hT.g0) hT.g1⟩
      · rw [hpl]
        simp [rules, q_bo, t1, t3, t5, t7, t8, t9, e1, e2, e3, s_slcM, Deed.pv, Deed.cells]
        by_cases k0 : x.kind = 0
        · simp [rules, q_bo, t1, t3, t5, t7, t8, t9, e1, e2, e3, s_slcM, Deed.pv, Deed.cells, k0]
          refine callK_by (mput_at hT.m1 x.load.p hxo x.load.w (by omega)) ⟨_, _, rfl, putH_at hT.m1 x.load.p hxo x.load.w (by omega)⟩ ?_
          rintro _ H2 ⟨rfl, q1, q2, q3⟩
          obtain ⟨z1, z2⟩ := put_good hT.g1 x.load.p x.load.w c1
          have hx2 : objCells H2 4 = objCells H 4 := objCells_eq (q3 4 (by decide) (by decide))
          rw [hx] at hx2
          have hmB : MAt H2 1 0 s n0 es0 c0 := hT.m0.move (q3 1 (by decide) (by decide)) (q3 0 (by decide) (by decide))
          simp [rules, q_bo, t1, t3, t5, t7, t8, t9, e1, e2, e3, s_slcM, Deed.pv, Deed.cells, k0, hx2, loads_strip, loads_one, loads_cells]
          obtain ⟨L', y1, y2⟩ := put_space s L1 x.load.p x.load.w
          have hsp := put9_spec ⟨s, L1⟩ x.load.p x.load.w (by simp only; omega) hxo
          rw [y1, ← z1] at hsp
          rw [y1] at z2
          refine pureK_by hsp ?_
          generalize putE s n1 x.load.p x.load.w = E
          have h4 : 4 < H2.length := objCells_lt (cs := _) hx2
          simp [rules, q_bo, t1, t3, t5, t7, t8, t9, hx2, h4, objCells_set, loads_strip, loads_one, loads_cells, RM.pv, RM.cells]
          refine pureK_by (rloads_spec ⟨s, L'⟩ (by simp only; omega)) ?_
          simp (disch := omega) [rules, q_bo, t1, t3, t5, t7, t8, t9, h4, objCells_set, v_storeTL, loads_strip, loads_one, loads_cells, w64_id]
          exact ⟨r.length, by simp [h2], d ++ [x], r, by simp [h1], rfl, x.load.p :: K, by simp; omega, by simp; omega, by simp, _, _, _, _, _, _, _, _, .of h4 hmB q1 (hT.g0.more _) z2⟩
        · by_cases k1 : x.kind = 1
          · simp (disch := omega) [rules, q_bo, t1, t3, t5, t7, t8, t9, e1, e2, e3, s_slcM, Deed.pv, Deed.cells, w64_id, k0, k1]
            refine callK_by (mjoin_spec hT.m1 hT.m0 (by omega)) (join_ex hT.m1 hT.m0 (by omega)) ?_
            rintro _ H2 ⟨rfl, q1, q2, X, hX, q4⟩
            obtain ⟨z1, z2⟩ := join_good hT.g1 hT.g0 c1
            have z2 := z2 X hX
            have h4' : 4 < H.length := objCells_lt hT.x
            have hx2 : objCells H2 4 = objCells H 4 := objCells_eq (q2 4 h4' (by decide) (by decide))
            rw [hx] at hx2
            have hmB : MAt H2 1 0 s n0 es0 c0 := hT.m0.move (q2 1 (by omega) (by decide) (by decide)) (q2 0 (by omega) (by decide) (by decide))
            simp (disch := omega) [rules, q_bo, t1, t3, t5, t7, t8, t9, e1, e2, e3, s_slcM, Deed.pv, Deed.cells, w64_id, k0, k1, hx2, loads_strip, loads_one, loads_cells]
            obtain ⟨L', y1, y2⟩ := join_space s L1 L0
            have hsp := join9_spec ⟨s, L1⟩ ⟨s, L0⟩ (by simp only; omega) (by simp only; omega)
            rw [y1, ← z1] at hsp
            rw [y1] at z2
            refine pureK_by hsp ?_
            generalize joinE s n1 s n0 = E at hX
            have h4 : 4 < H2.length := objCells_lt (cs := _) hx2
            simp [rules, q_bo, t1, t3, t5, t7, t8, t9, hx2, h4, objCells_set, loads_strip, loads_one, loads_cells, RM.pv, RM.cells]
            refine pureK_by (rloads_spec ⟨s, L'⟩ (by simp only; omega)) ?_
            simp (disch := omega) [rules, q_bo, t1, t3, t5, t7, t8, t9, h4, objCells_set, v_storeTL, loads_strip, loads_one, loads_cells, w64_id]
            exact ⟨r.length, by simp [h2], d ++ [x], r, by simp [h1], rfl, K, by simp; omega, by simp; omega, by simp, _, _, _, _, _, _, _, _, .of h4 hmB q4 hT.g0 z2⟩
          · by_cases k2 : x.kind = 2
            · simp (disch := omega) [rules, q_bo, t1, t3, t5, t7, t8, t9, e1, e2, e3, s_slcM, Deed.pv, Deed.cells, w64_id, k0, k1, k2]
              refine callK_by (mjoin_spec hT.m1 hT.m1 (by omega)) (join_ex hT.m1 hT.m1 (by omega)) ?_
              rintro _ H2 ⟨rfl, q1, q2, X, hX, q4⟩
              obtain ⟨z1, z2⟩ := join_good hT.g1 hT.g1 c1
              have z2 := z2 X hX
              have h4' : 4 < H.length := objCells_lt hT.x
              have hx2 : objCells H2 4 = objCells H 4 := objCells_eq (q2 4 h4' (by decide) (by decide))
              rw [hx] at hx2
              have hmB : MAt H2 1 0 s n0 es0 c0 := hT.m0.move (q2 1 (by omega) (by decide) (by decide)) (q2 0 (by omega) (by decide) (by decide))
              simp (disch := omega) [rules, q_bo, t1, t3, t5, t7, t8, t9, e1, e2, e3, s_slcM, Deed.pv, Deed.cells, w64_id, k0, k1, k2, hx2, loads_strip, loads_one, loads_cells]
              obtain ⟨L', y1, y2⟩ := join_space s L1 L1
              have hsp := join9_spec ⟨s, L1⟩ ⟨s, L1⟩ (by simp only; omega) (by simp only; omega)
              rw [y1, ← z1] at hsp
              rw [y1] at z2
              refine pureK_by hsp ?_
              generalize joinE s n1 s n1 = E at hX
              have h4 : 4 < H2.length := objCells_lt (cs := _) hx2
              simp [rules, q_bo, t1, t3, t5, t7, t8, t9, hx2, h4, objCells_set, loads_strip, loads_one, loads_cells, RM.pv, RM.cells]
              refine pureK_by (rloads_spec ⟨s, L'⟩ (by simp only; omega)) ?_
              simp (disch := omega) [rules, q_bo, t1, t3, t5, t7, t8, t9, h4, objCells_set, v_storeTL, loads_strip, loads_one, loads_cells, w64_id]
              exact ⟨r.length, by simp [h2], d ++ [x], r, by simp [h1], rfl, K, by simp; omega, by simp; omega, by simp, _, _, _, _, _, _, _, _, .of h4 hmB q4 hT.g0 z2⟩
            · have h4 : 4 < H.length := objCells_lt hT.x
              simp [rules, q_bo, t1, t3, t5, t7, t8, t9, e1, e2, e3, s_slcM, Deed.pv, Deed.cells, k0, k1, k2, hx, h4, objCells_set, loads_strip, loads_one, loads_cells]
              refine pureK_by (rloads_spec ⟨s, L1⟩ (by simp only; omega)) ?_
              simp (disch := omega) [rules, q_bo, t1, t3, t5, t7, t8, t9, hx, h4, objCells_set, v_storeTL, loads_strip, loads_one, loads_cells, w64_id]
              exact ⟨r.length, by simp [h2], d ++ [x], r, by simp [h1], rfl, K, by simp; omega, by simp; omega, by simp, _, _, _, _, _, _, _, _, .of h4 hT.m0 hT.m1 hT.g0 (by rw [hT.g1.again]; exact hT.g1)⟩
    · simp [rules, q_bo, t1, t3, t5, t7, t8, t9, e1, e2, e3, s_slcM]
      refine pureK_by alive_spec ?_
      simp [rules, q_bo, t5, t7, t8, hx, loads_strip, loads_one, loads_cells, Pfx.cells]
      refine callK_by (same_spec hT.m0 hE0 ⟨s, L0⟩ p hp hL0 hO0 rfl hT.g0.total.2.symm (hT.g0.weight p) (by rw [hT.g0.again]; exact hT.g0.loads.symm) (hT.g0.over hs)) ⟨_, H, rfl, .refl _⟩ ?_
      rintro _ H5 ⟨rfl, k5⟩
      have hx5 : objCells H5 4 = objCells H 4 := objCells_eq (k5.2 4 (objCells_lt hT.x))
      rw [hx] at hx5
      simp [rules, q_bo, t5, t7, t8, hx5, loads_strip, loads_one, loads_cells, Pfx.cells]
      refine callK_by (same_spec (hT.m1.ext k5) hE1 ⟨s, L1⟩ p hp hL1 hO1 rfl hT.g1.total.2.symm (hT.g1.weight p) (by rw [hT.g1.again]; exact hT.g1.loads.symm) (hT.g1.over hs)) ⟨_, H5, rfl, .refl _⟩ ?_
      rintro _ H6 ⟨rfl, k6⟩
      simp [rules, q_bo]
end Go.Pi.M
