import Derived.Test.YtcmkgbboldchbaaGreatDoorB2
import Derived.Test.YtcmkgbboldchbaaGreatDoorA5
set_option linter.unusedSimpArgs false
set_option linter.unusedVariables false
namespace Go.Pi.M
open Go Go.Pi Go.Proofs
set_option maxRecDepth 10000

theorem sound_n {s : Space} (e : s.sound = true) : s.n = 1 ∨ s.n = 2 := by
  unfold Space.sound at e
  split at e
  · exact .inl (by assumption)
  · simp at e; exact .inr e.1
theorem don8_spec' (d : Dim) (l : Int) (k : Key) (hp : k.path.length ≤ 2000000) : Pure Tryz.prog 42 [d.pv, i l, k.pv] (bo (d.on l k)) := by
  rw [← on8_eq]; exact don8_spec d l k hp
theorem dcut8_spec' (d : Dim) (l : Int) (k : Key) (hp : k.path.length ≤ 2000000) : Pure Tryz.prog 88 [d.pv, i l, k.pv] (d.cut l k).pv := by
  rw [← cut8_eq]; exact dcut8_spec d l k hp
theorem kcmp7_spec' (a b : Key) : Pure Tryz.prog 87 [a.pv, b.pv] (i (a.cmp b)) := by
  rw [← cmp7_eq]; exact kcmp7_spec a b

theorem right9_spec (s : Space) (p : Pfx) (hp : p.ok) : Pure Tryz.prog 25 [s.pv, p.pv] (bo (s.right p)) := by
  refine Pure.run mixed is25 (by simp [n25]) (by simp [frees]) (by simp [frees, Space.pv, Space.cells, Pfx.pv, Pfx.cells]) ?_
  simp [c25, r25, rules, Space.pv, Space.cells, Pfx.pv, Pfx.cells]
  refine pureK_by (sound9_spec s) ?_
  cases e : s.sound
  · simp [rules, Space.right, e]
  have hn := sound_n e
  simp [rules]
  refine pureK_by (don8_spec' s.d0 p.a0 p.k0 hp.1) ?_
  cases e2 : s.d0.on p.a0 p.k0
  · simp [rules, Space.right, e2]
  rcases hn with hn | hn
  · by_cases e3 : p.a1 = 0
    · simp [rules, hn, e3, Space.right, e, e2, noKeyEq]
    · simp [rules, hn, e3, Space.right]
  · simp [rules, hn]
    refine pureK_by (don8_spec' s.d1 p.a1 p.k1 hp.2) ?_
    simp [rules, Space.right, e, e2, hn]

/-- Is the one over the other? -/
def Space.over (s : Space) (p q : Pfx) : Bool :=
  s.right p && (s.right q && (decide (q.a0 ≤ p.a0 ∧ p.k0 = s.d0.cut p.a0 q.k0) && (decide (s.n = 1) || decide (q.a1 ≤ p.a1 ∧ p.k1 = s.d1.cut p.a1 q.k1))))
theorem right_sound {s : Space} {p : Pfx} (h : s.right p = true) : s.sound = true := by
  unfold Space.right at h
  simp at h
  exact h.1.1
theorem over9_spec (s : Space) (p q : Pfx) (hp : p.ok) (hq : q.ok) : Pure Tryz.prog 65 [s.pv, p.pv, q.pv] (bo (s.over p q)) := by
  refine Pure.run mixed is65 (by simp [n65]) (by simp [frees]) (by simp [frees, Space.pv, Space.cells, Pfx.pv, Pfx.cells]) ?_
  simp [c65, r65, rules, Space.pv, Space.cells, Pfx.pv, Pfx.cells]
  refine pureK_by (right9_spec s p hp) ?_
  cases e : s.right p
  · simp [rules, Space.over, e]
  simp [rules]
  refine pureK_by (right9_spec s q hq) ?_
  cases e2 : s.right q
  · simp [rules, Space.over, e2]
  have hn := sound_n (right_sound e)
  simp [rules]
  refine pwp_loop mixed (fun m st => ∃ j : Nat, (j + m : Int) = s.n ∧ st.t 3 = .ept [i s.n, i s.d0.kind, i s.d0.side, i s.d0.step, i s.d1.kind, i s.d1.side, i s.d1.step] 0 ∧
    st.t 4 = .ept [i p.a0, i p.a1, i p.k0.kind, i p.k0.len, u p.k0.hi, u p.k0.lo, tx p.k0.path, i p.k1.kind, i p.k1.len, u p.k1.hi, u p.k1.lo, tx p.k1.path] 0 ∧
    st.t 5 = .ept [i q.a0, i q.a1, i q.k0.kind, i q.k0.len, u q.k0.hi, u q.k0.lo, tx q.k0.path, i q.k1.kind, i q.k1.len, u q.k1.hi, u q.k1.lo, tx q.k1.path] 0 ∧
    st.t 7 = i j ∧ (1 ≤ j → q.a0 ≤ p.a0 ∧ p.k0 = s.d0.cut p.a0 q.k0) ∧ (2 ≤ j → q.a1 ≤ p.a1 ∧ p.k1 = s.d1.cut p.a1 q.k1)) s.n.toNat ⟨0, by simp [rules]; omega⟩ ?_
  rintro m ⟨t, H⟩ ⟨j, h1, h3, h4, h5, h7, hj1, hj2⟩
  simp only at h3 h4 h5 h7
  by_cases hend : (j : Int) = s.n
  · have g1 := hj1 (by omega)
    have : s.over p q = true := by
      unfold Space.over
      simp only [e, e2, Bool.true_and, Bool.and_eq_true, decide_eq_true_eq, Bool.or_eq_true]
      refine ⟨g1, ?_⟩
      rcases hn with hn | hn
      · exact .inl hn
      · exact .inr (hj2 (by omega))
    simp [rules, h3, h7, hend, this]
  · rcases (by omega : j = 0 ∨ (j = 1 ∧ s.n = 2)) with rfl | ⟨rfl, hn2⟩
    · have e1 : (0 : Int) < s.n := by omega
      by_cases g1 : p.a0 < q.a0
      · have : s.over p q = false := by
          unfold Space.over
          have : ¬ q.a0 ≤ p.a0 := by omega
          simp [this]
        simp [rules, h3, h4, h5, h7, e1, g1, this]
      · simp [rules, h3, h4, h5, h7, e1, g1]
        refine pureK_by (dcut8_spec' s.d0 p.a0 q.k0 hq.1) ?_
        simp [rules, Key.pv, Key.cells, keyEq]
        by_cases g2 : p.k0 = s.d0.cut p.a0 q.k0
        · simp (disch := omega) [rules, g2.symm, h3, h4, h5, h7, w64_id]
          refine ⟨m - 1, by omega, 1, by omega, ?_⟩
          simp; omega
        · have : s.over p q = false := by
            unfold Space.over
            simp [g2]
          simp [rules, g2, this]
    · have e1 : (1 : Int) < s.n := by omega
      have hj1 := hj1 (by omega)
      by_cases g1 : p.a1 < q.a1
      · have : s.over p q = false := by
          unfold Space.over
          have : ¬ q.a1 ≤ p.a1 := by omega
          simp [this, hn2]
        simp [rules, h3, h4, h5, h7, e1, g1, this]
      · simp [rules, h3, h4, h5, h7, e1, g1]
        refine pureK_by (dcut8_spec' s.d1 p.a1 q.k1 hq.2) ?_
        simp [rules, Key.pv, Key.cells, keyEq]
        by_cases g2 : p.k1 = s.d1.cut p.a1 q.k1
        · simp (disch := omega) [rules, g2.symm, h3, h4, h5, h7, w64_id]
          refine ⟨m - 1, by omega, 2, by omega, ?_⟩
          simp [hj1.1]
          exact ⟨hj1.2, by omega⟩
        · have : s.over p q = false := by
            unfold Space.over
            simp [g2, hn2]
          simp [rules, g2, this]
end Go.Pi.M
namespace Go.Pi.M
open Go Go.Pi Go.Proofs
set_option maxRecDepth 10000

theorem noPfx_wrong (s : Space) : s.right noPfx = false := by
  cases h : s.right noPfx with
  | false => rfl
  | true =>
    unfold Space.right at h
    simp only [Bool.and_eq_true] at h
    have h1 := h.1.2
    unfold Dim.on at h1
    simp only [Bool.and_eq_true] at h1
    have : noKey.right = false := by decide
    rw [show noPfx.k0 = noKey from rfl] at h1
    rw [this] at h1
    exact absurd h1.1.2 (by simp)
theorem right_one {s : Space} {p : Pfx} (h : s.right p = true) (hn : s.n = 1) : p.a1 = 0 ∧ p.k1 = noKey := by
  unfold Space.right at h
  simp [hn] at h
  exact h.2
theorem sound_one {s : Space} (h : s.sound = true) (hn : s.n = 1) : s.d1 = noDim := by
  unfold Space.sound at h
  rw [if_pos hn] at h
  simp at h
  exact h.2
theorem noDim_cut (l : Int) (k : Key) : noDim.cut l k = noKey := by
  unfold Dim.cut
  have : noDim.lenAt l = -1 := by
    unfold Dim.lenAt
    exact if_pos (.inl (by decide))
  rw [this]
  exact if_pos (.inl (by omega))
theorem over_eq (s : Space) (p q : Pfx) : (s.right p && (s.right q && decide (q.a0 ≤ p.a0 ∧ q.a1 ≤ p.a1 ∧ p = s.up q p.a0 p.a1))) = s.over p q := by
  unfold Space.over
  cases e : s.right p
  · rfl
  cases e2 : s.right q
  · rfl
  simp only [Bool.true_and]
  rw [Bool.eq_iff_iff]
  simp only [decide_eq_true_eq, Bool.and_eq_true, Bool.or_eq_true]
  have hn := sound_n (right_sound e)
  have key : q.a0 ≤ p.a0 → q.a1 ≤ p.a1 → (p = s.up q p.a0 p.a1 ↔ p.k0 = s.d0.cut p.a0 q.k0 ∧ p.k1 = s.d1.cut p.a1 q.k1) := by
    intro h1 h2
    unfold Space.up Space.orNone
    rw [if_neg (by simp [e2]; omega)]
    have hp : p = ⟨p.a0, p.a1, s.d0.cut p.a0 q.k0, s.d1.cut p.a1 q.k1⟩ ↔ p.k0 = s.d0.cut p.a0 q.k0 ∧ p.k1 = s.d1.cut p.a1 q.k1 := by
      obtain ⟨a, b, c, d⟩ := p
      simp
    split
    · exact hp
    · rename_i h
      constructor
      · intro h3
        rw [h3, noPfx_wrong] at e; cases e
      · intro h3
        rw [← hp.2 h3] at h
        exact absurd e h
  constructor
  · rintro ⟨h1, h2, h3⟩
    have := (key h1 h2).1 h3
    exact ⟨⟨h1, this.1⟩, .inr ⟨h2, this.2⟩⟩
  · rintro ⟨⟨h1, h2⟩, h3⟩
    rcases hn with hn | hn
    · obtain ⟨g1, g2⟩ := right_one e hn
      obtain ⟨g3, g4⟩ := right_one e2 hn
      have h5 : q.a1 ≤ p.a1 := by omega
      refine ⟨h1, h5, (key h1 h5).2 ⟨h2, ?_⟩⟩
      rw [sound_one (right_sound e) hn, noDim_cut, g2]
    · rcases h3 with h3 | h3
      · omega
      · exact ⟨h1, h3.1, (key h1 h3.1).2 ⟨h2, h3.2⟩⟩
theorem over_spec' (s : Space) (p q : Pfx) (hp : p.ok) (hq : q.ok) : Pure Tryz.prog 40 [s.pv, p.pv, q.pv] (bo (s.over p q)) := by
  rw [← over_eq]; exact over_spec s p q hp hq

/-- The prefix over another one, by the reference. -/
def Space.up9 (s : Space) (p : Pfx) (x y : Int) : Pfx :=
  if s.over ⟨x, y, s.d0.cut x p.k0, s.d1.cut y p.k1⟩ p = true then ⟨x, y, s.d0.cut x p.k0, s.d1.cut y p.k1⟩ else noPfx
theorem up9_eq (s : Space) (p : Pfx) (x y : Int) : s.up9 p x y = s.up p x y := by
  unfold Space.up9 Space.up Space.orNone Space.over
  cases e2 : s.right p
  · simp
  simp only [Bool.true_and, Bool.true_eq_false, false_or]
  cases e : s.right ⟨x, y, s.d0.cut x p.k0, s.d1.cut y p.k1⟩
  · simp
  have hn := sound_n (right_sound e)
  simp only [Bool.true_and, and_true, if_true, Bool.and_eq_true, Bool.or_eq_true, decide_eq_true_eq]
  rcases hn with hn | hn
  · obtain ⟨g1, g2⟩ := right_one e hn
    obtain ⟨g3, g4⟩ := right_one e2 hn
    simp only at g1
    by_cases h : p.a0 ≤ x
    · rw [if_pos ⟨h, .inl hn⟩, if_neg (by omega)]
    · rw [if_neg (fun g => h g.1), if_pos (by omega)]
  · by_cases h : p.a0 ≤ x ∧ p.a1 ≤ y
    · rw [if_pos ⟨h.1, .inr h.2⟩, if_neg (by omega)]
    · rw [if_neg, if_pos (by omega)]
      rintro ⟨h1, h2 | h2⟩
      · omega
      · exact h ⟨h1, h2⟩
theorem up_path (s : Space) (p : Pfx) (x y : Int) : (s.up p x y).ok := by
  unfold Space.up Space.orNone
  split
  · simp [Pfx.ok, noPfx, noKey]
  · split
    · have := dcut_path s.d0 x p.k0
      have := dcut_path s.d1 y p.k1
      constructor <;> simp <;> omega
    · simp [Pfx.ok, noPfx, noKey]
theorem up9_spec (s : Space) (p : Pfx) (x y : Int) (hp : p.ok) : Pure Tryz.prog 67 [s.pv, p.pv, .agg [i x, i y]] (s.up p x y).pv := by
  rw [← up9_eq]
  refine Pure.run mixed is67 (by simp [n67]) (pfx_free _) (by simp [frees, Space.pv, Space.cells, Pfx.pv, Pfx.cells]) ?_
  simp [c67, r67, rules, Space.pv, Space.cells, Pfx.pv, Pfx.cells]
  refine pwp_loop mixed (fun m st => ∃ (j : Nat) (ka kb : Key), j + m = 2 ∧ st.t 3 = .ept [i s.n, i s.d0.kind, i s.d0.side, i s.d0.step, i s.d1.kind, i s.d1.side, i s.d1.step] 0 ∧
    st.t 4 = .ept [i p.a0, i p.a1, i p.k0.kind, i p.k0.len, u p.k0.hi, u p.k0.lo, tx p.k0.path, i p.k1.kind, i p.k1.len, u p.k1.hi, u p.k1.lo, tx p.k1.path] 0 ∧
    st.t 5 = .ept [i x, i y] 0 ∧ st.t 6 = .ptr 0 0 ∧ st.t 7 = .ptr 1 0 ∧ st.t 8 = i j ∧ ka = (if 1 ≤ j then s.d0.cut x p.k0 else noKey) ∧ kb = (if 2 ≤ j then s.d1.cut y p.k1 else noKey) ∧
    st.H = [.cells [i 0, i 0, i 0, i 0, u 0, u 0, tx [], i 0, i 0, u 0, u 0, tx []], .cells [i x, i y, i ka.kind, i ka.len, u ka.hi, u ka.lo, tx ka.path, i kb.kind, i kb.len, u kb.hi, u kb.lo, tx kb.path]]) 2 ⟨0, noKey, noKey, by simp [rules, noKey]⟩ ?_
  rintro m ⟨t, H⟩ ⟨j, ka, kb, h1, h3, h4, h5, h6, h7, h8, hka, hkb, hH⟩
  simp only at h3 h4 h5 h6 h7 h8 hH
  subst hH
  rcases (by omega : j = 0 ∨ j = 1 ∨ j = 2) with rfl | rfl | rfl
  · simp [rules, h3, h4, h5, h6, h7, h8]
    refine pureK_by (dcut8_spec' s.d0 x p.k0 hp.1) ?_
    simp (disch := omega) [rules, h3, h4, h5, h6, h7, h8, w64_id, Key.pv, Key.cells]
    refine ⟨1, by omega, 1, by omega, rfl, ?_⟩
    simp [hkb]
  · simp [rules, h3, h4, h5, h6, h7, h8]
    refine pureK_by (dcut8_spec' s.d1 y p.k1 hp.2) ?_
    simp (disch := omega) [rules, h3, h4, h5, h6, h7, h8, w64_id, Key.pv, Key.cells]
    refine ⟨0, by omega, 2, by omega, rfl, ?_⟩
    simp [hka]
  · have ho : Pfx.ok ⟨x, y, ka, kb⟩ := by
      subst hka; subst hkb
      have := dcut_path s.d0 x p.k0
      have := dcut_path s.d1 y p.k1
      constructor <;> simp <;> omega
    simp [rules, h3, h4, h5, h6, h7, h8]
    refine pureK_by (over9_spec s ⟨x, y, ka, kb⟩ p ho hp) ?_
    have hk : (⟨x, y, s.d0.cut x p.k0, s.d1.cut y p.k1⟩ : Pfx) = ⟨x, y, ka, kb⟩ := by rw [hka, hkb]; simp
    unfold Space.up9
    rw [hk]
    cases g : s.over ⟨x, y, ka, kb⟩ p
    · simp [rules, h6, noPfx, noKey]
    · simp [rules, h6, h7]
end Go.Pi.M
namespace Go.Pi.M
open Go Go.Pi Go.Proofs
set_option maxRecDepth 10000

def Pfx.cmp (p q : Pfx) : Int := if p = q then 0 else orL [orL [cmpI p.a0 q.a0, cmpI p.a1 q.a1], p.k0.cmp q.k0, p.k1.cmp q.k1]
theorem pcmp_spec (p q : Pfx) : Pure Tryz.prog 36 [p.pv, q.pv] (i (p.cmp q)) := by
  refine Pure.run mixed is36 (by simp [n36]) (by simp [frees]) (by simp [frees, Pfx.pv, Pfx.cells]) ?_
  simp [c36, r36, rules, Pfx.pv, Pfx.cells, pfxEq]
  by_cases h : p = q
  · simp [rules, h, Pfx.cmp]
  simp [rules, h]
  refine pureK_by (cmpI_spec _ _) ?_
  simp [rules]
  refine pureK_by (cmpI_spec _ _) ?_
  simp [rules]
  refine pureK_by (or_spec [cmpI p.a0 q.a0, cmpI p.a1 q.a1] (by simp)) ?_
  simp [rules]
  refine pureK_by (kcmp_spec p.k0 q.k0) ?_
  simp [rules]
  refine pureK_by (kcmp_spec p.k1 q.k1) ?_
  simp [rules]
  refine pureK_by (or_spec [orL [cmpI p.a0 q.a0, cmpI p.a1 q.a1], p.k0.cmp q.k0, p.k1.cmp q.k1] (by simp)) ?_
  simp [rules, Pfx.cmp, h]
def less (b : Bool) : Int := if b then -1 else 1
theorem less_spec (b : Bool) : Pure Tryz.prog 86 [bo b] (i (less b)) := by
  refine Pure.run mixed is86 (by simp [n86]) (by simp [frees]) (by simp [frees]) ?_
  cases b <;> simp [c86, r86, rules, less]
def Pfx.cmp9 (p q : Pfx) : Int :=
  if p.a0 ≠ q.a0 then less (decide (p.a0 < q.a0)) else if p.a1 ≠ q.a1 then less (decide (p.a1 < q.a1)) else if p.k0 ≠ q.k0 then p.k0.cmp q.k0 else p.k1.cmp q.k1
theorem kcmp_cases (a b : Key) : a.cmp b = if a = b then 0 else if a.lt7 b = true then -1 else 1 := by rw [← cmp7_eq]; rfl
theorem pcmp9_eq (p q : Pfx) : p.cmp9 q = p.cmp q := by
  obtain ⟨a, b, c, d⟩ := p
  obtain ⟨a', b', c', d'⟩ := q
  unfold Pfx.cmp9 Pfx.cmp
  simp only [Pfx.mk.injEq]
  by_cases h1 : a = a'
  · subst h1
    by_cases h2 : b = b'
    · subst h2
      by_cases h3 : c = c'
      · subst h3
        by_cases h4 : d = d'
        · subst h4
          have := kcmp_cases d d
          simp at this
          simp [this]
        · have := kcmp_cases c c
          simp at this
          have h5 := kcmp_cases d d'
          rw [if_neg h4] at h5
          have h6 : ¬ d.cmp d' = 0 := by rw [h5]; split <;> omega
          simp [h4, orL, cmpI, this, h6]
      · have h5 := kcmp_cases c c'
        rw [if_neg h3] at h5
        have h6 : ¬ c.cmp c' = 0 := by rw [h5]; split <;> omega
        simp [h3, orL, cmpI, h6]
    · by_cases h : b < b'
      · simp [h2, h, orL, cmpI, less]
      · have : b' < b := by omega
        simp [h2, h, orL, cmpI, less, this]
  · by_cases h : a < a'
    · simp [h1, h, orL, cmpI, less]
    · have : a' < a := by omega
      simp [h1, h, orL, cmpI, less, this]
theorem pcmp9_spec (p q : Pfx) : Pure Tryz.prog 64 [p.pv, q.pv] (i (p.cmp q)) := by
  rw [← pcmp9_eq]
  refine Pure.run mixed is64 (by simp [n64]) (by simp [frees]) (by simp [frees, Pfx.pv, Pfx.cells]) ?_
  by_cases h1 : p.a0 = q.a0
  · by_cases h2 : p.a1 = q.a1
    · simp [c64, r64, rules, Pfx.pv, Pfx.cells, keyEq, h1, h2]
      by_cases h3 : p.k0 = q.k0
      · simp [rules, h3]
        refine pureK_by (kcmp7_spec' p.k1 q.k1) ?_
        simp [rules, Pfx.cmp9, h1, h2, h3]
      · simp [rules, h3]
        refine pureK_by (kcmp7_spec' p.k0 q.k0) ?_
        simp [rules, Pfx.cmp9, h1, h2, h3]
    · simp [c64, r64, rules, Pfx.pv, Pfx.cells, h1, h2]
      refine pureK_by (less_spec _) ?_
      simp [rules, Pfx.cmp9, h1, h2]
  · simp [c64, r64, rules, Pfx.pv, Pfx.cells, h1]
    refine pureK_by (less_spec _) ?_
    simp [rules, Pfx.cmp9, h1]
def Pfx.byHeight (p q : Pfx) : Int := orL [cmpI (w64 (p.a0 + p.a1)) (w64 (q.a0 + q.a1)), p.cmp q]
theorem byHeight_spec (p q : Pfx) : Pure Tryz.prog 39 [p.pv, q.pv] (i (p.byHeight q)) := by
  refine Pure.run mixed is39 (by simp [n39]) (by simp [frees]) (by simp [frees, Pfx.pv, Pfx.cells]) ?_
  simp [c39, r39, rules, Pfx.pv, Pfx.cells]
  refine pureK_by (cmpI_spec _ _) ?_
  simp [rules]
  refine pureK_by (pcmp_spec p q) ?_
  simp [rules]
  refine pureK_by (or_spec [cmpI (w64 (p.a0 + p.a1)) (w64 (q.a0 + q.a1)), p.cmp q] (by simp)) ?_
  simp [rules, Pfx.byHeight]

/-! The grid -/
def Space.e0 (s : Space) : Int := s.d0.depth
def Space.e1 (s : Space) : Int := s.d1.depth
def Space.top (s : Space) : Pfx := if s.sound = true then ⟨s.d0.depth, s.d1.depth, root s.d0.kind, root s.d1.kind⟩ else noPfx
theorem top_spec' (s : Space) : Pure Tryz.prog 118 [s.pv] s.top.pv := by
  refine Pure.run mixed is118 (by simp [n118]) (pfx_free _) (by simp [frees, Space.pv, Space.cells]) ?_
  simp [c118, r118, rules, Space.pv, Space.cells]
  refine pureK_by (sound_spec s) ?_
  cases e : s.sound
  · simp [rules, Space.top, e, noPfx, noKey, Pfx.pv, Pfx.cells]
  simp [rules]
  refine pwp_loop mixed (fun m st => ∃ (j : Nat) (x y : Int) (ka kb : Key), j + m = 2 ∧ st.t 2 = .ptr 0 0 ∧ st.t 3 = .ptr 1 0 ∧ st.t 11 = .agg [i s.d0.kind, i s.d0.side, i s.d0.step, i s.d1.kind, i s.d1.side, i s.d1.step] ∧ st.t 12 = i j ∧
    x = (if 1 ≤ j then s.d0.depth else 0) ∧ y = (if 2 ≤ j then s.d1.depth else 0) ∧ ka = (if 1 ≤ j then root s.d0.kind else noKey) ∧ kb = (if 2 ≤ j then root s.d1.kind else noKey) ∧
    st.H = [.cells [i 0, i 0, i 0, i 0, u 0, u 0, tx [], i 0, i 0, u 0, u 0, tx []], .cells [i x, i y, i ka.kind, i ka.len, u ka.hi, u ka.lo, tx ka.path, i kb.kind, i kb.len, u kb.hi, u kb.lo, tx kb.path]]) 2 ⟨0, 0, 0, noKey, noKey, by simp [rules, noKey]⟩ ?_
  rintro m ⟨t, H⟩ ⟨j, x, y, ka, kb, h1, h2, h3, h11, h12, hx, hy, hka, hkb, hH⟩
  simp only at h2 h3 h11 h12 hH
  subst hH
  rcases (by omega : j = 0 ∨ j = 1 ∨ j = 2) with rfl | rfl | rfl
  · simp [rules, h2, h3, h11, h12]
    refine pureK_by (depth_spec s.d0) ?_
    simp [rules, h2, h3, h11, h12]
    refine pureK_by (root_spec _) ?_
    simp (disch := omega) [rules, h2, h3, h11, h12, w64_id, Key.pv, Key.cells]
    refine ⟨1, by omega, 1, by omega, rfl, ?_⟩
    simp [hy, hkb]
  · simp [rules, h2, h3, h11, h12]
    refine pureK_by (depth_spec s.d1) ?_
    simp [rules, h2, h3, h11, h12]
    refine pureK_by (root_spec _) ?_
    simp (disch := omega) [rules, h2, h3, h11, h12, w64_id, Key.pv, Key.cells]
    refine ⟨0, by omega, 2, by omega, rfl, ?_⟩
    simp [hx, hka]
  · simp [rules, h2, h3, h11, h12, Space.top, e, hx, hy, hka, hkb, Pfx.pv, Pfx.cells]
theorem ends_spec (s : Space) : Pure Tryz.prog 103 [s.pv] (.agg [i s.top.a0, i s.top.a1]) := by
  refine Pure.run mixed is103 (by simp [n103]) (by simp [frees]) (by simp [frees, Space.pv, Space.cells]) ?_
  simp [c103, r103, rules, Space.pv, Space.cells]
  refine pureK_by (top_spec' s) ?_
  simp [rules, Pfx.pv, Pfx.cells]
theorem top_bound (s : Space) : (0 ≤ s.top.a0 ∧ s.top.a0 ≤ 128) ∧ (0 ≤ s.top.a1 ∧ s.top.a1 ≤ 128) := by
  have h1 := depth_bound s.d0
  have h2 := depth_bound s.d1
  unfold Space.top
  split
  · exact ⟨h1, h2⟩
  · simp [noPfx]
theorem span_spec (s : Space) (h : Int) (hh : 0 ≤ h ∧ h ≤ 1000) : Pure Tryz.prog 80 [s.pv, i h] (.tup [i (max 0 (h - s.top.a1)), i (min h s.top.a0)]) := by
  refine Pure.run mixed is80 (by simp [n80]) (by simp [frees]) (by simp [frees, Space.pv, Space.cells]) ?_
  simp [c80, r80, rules, Space.pv, Space.cells]
  refine pureK_by (ends_spec s) ?_
  have := top_bound s
  simp (disch := omega) [rules, w64_id]
theorem tall_spec (s : Space) : Pure Tryz.prog 79 [s.pv] (i (s.top.a0 + s.top.a1)) := by
  refine Pure.run mixed is79 (by simp [n79]) (by simp [frees]) (by simp [frees, Space.pv, Space.cells]) ?_
  simp [c79, r79, rules, Space.pv, Space.cells]
  refine pureK_by (ends_spec s) ?_
  have := top_bound s
  simp (disch := omega) [rules, w64_id]
theorem walk_spec (s : Space) : Pure Tryz.prog 57 [s.pv] (.clo 78 [.ept s.cells 0]) := by
  refine Pure.run mixed is57 (by simp [n57]) (by simp [frees, Space.cells]) (by simp [frees, Space.pv, Space.cells]) ?_
  simp [c57, r57, rules, Space.pv, Space.cells]
end Go.Pi.M
namespace Go.Pi.M
open Go Go.Pi Go.Proofs
set_option maxRecDepth 10000

def keysOn (d : Dim) (k : Key) : List Key := (List.range (d.depth.toNat + 1)).map fun j => d.cut (j : Nat) k
def keysTo (d : Dim) (k : Key) (n : Nat) : List (List PV) := (List.range (d.depth.toNat + 1)).map fun j => if j < n then (d.cut (j : Nat) k).cells else noKey.cells
theorem keysTo_len {d : Dim} {k : Key} {n : Nat} : ∀ l ∈ keysTo d k n, l.length = 5 := by
  intro l hl
  obtain ⟨j, _, rfl⟩ := List.mem_map.1 hl
  split <;> simp [Key.cells]
theorem keysTo_succ (d : Dim) (k : Key) (n : Nat) : (keysTo d k n).set n (d.cut (n : Nat) k).cells = keysTo d k (n + 1) := by
  unfold keysTo
  apply List.ext_getElem?
  intro j
  rw [List.getElem?_set]
  simp only [List.length_map, List.length_range, List.getElem?_map]
  by_cases h : n = j
  · subst h
    by_cases h2 : n < d.depth.toNat + 1
    · simp [h2]
    · simp [h2]
  · by_cases h2 : j < d.depth.toNat + 1
    · simp only [h, if_false, List.getElem?_range h2, Option.map_some]
      congr 1
      by_cases h3 : j < n
      · rw [if_pos h3, if_pos (by omega)]
      · rw [if_neg h3, if_neg (by omega)]
    · simp [h, h2]
theorem keysTo_all (d : Dim) (k : Key) : keysTo d k (d.depth.toNat + 1) = (keysOn d k).map (PV.cells ∘ Key.pv) := by
  unfold keysTo keysOn
  rw [List.map_map]
  apply List.map_congr_left
  intro j hj
  rw [if_pos (List.mem_range.1 hj)]
  rfl
theorem keysTo_zero (d : Dim) (k : Key) : keysTo d k 0 = List.replicate (d.depth.toNat + 1) [i 0, i 0, u 0, u 0, tx []] := by
  unfold keysTo
  rw [List.eq_replicate_iff]
  refine ⟨by simp, fun l hl => ?_⟩
  obtain ⟨j, _, rfl⟩ := List.mem_map.1 hl
  simp [noKey, Key.cells]
theorem keysTo_size (d : Dim) (k : Key) (n : Nat) : (keysTo d k n).length = d.depth.toNat + 1 := by simp [keysTo]
def Space.dim (s : Space) (b : Bool) : Dim := if b then s.d1 else s.d0
def Pfx.key (p : Pfx) (b : Bool) : Key := if b then p.k1 else p.k0
theorem keysOver_spec (s : Space) (p : Pfx) (b : Bool) (hp : p.ok) : Pure Tryz.prog 56 [s.pv, p.pv, i (if b then 1 else 0)] (.slc false ((keysOn (s.dim b) (p.key b)).map Key.pv)) := by
  have hb := depth_bound (s.dim b)
  have hpk : (p.key b).path.length ≤ 2000000 := by cases b; exact hp.1; exact hp.2
  refine Pure.freeze (k := 5) (by simp [keysOn]) (by simp [Key.pv, Key.cells, PV.cells]) (by simp [frees, Key.pv, Key.cells]) (by simp [frees, Space.pv, Space.cells, Pfx.pv, Pfx.cells]) ?_
  refine Sum.run mixed is56 (by simp [n56]) ?_
  have key : ∀ (D : Dim) (K : Key) (x : Int), (x = 0 ∧ D = s.d0 ∧ K = p.k0 ∨ x = 1 ∧ D = s.d1 ∧ K = p.k1) → pwp ⟨Tryz.prog, noY, True⟩ (z56 ++ pures) n56 c56 (endK r56 fun r H' => ∃ id cap, r = .hsl id 0 (keysOn D K).length cap ∧ (keysOn D K).length ≤ cap ∧ H'[id]? = some (.cells ((keysOn D K).map (PV.cells ∘ Key.pv)).flatten)) (startSt [s.pv, p.pv, i x] []) := by
    intro D K x hx
    have hD := depth_bound D
    have hK : K.path.length ≤ 2000000 := by
      rcases hx with h | h
      · rw [h.2.2]; exact hp.1
      · rw [h.2.2]; exact hp.2
    obtain ⟨N, eN⟩ : ∃ N : Nat, D.depth = N := ⟨D.depth.toNat, by omega⟩
    have eN2 : D.depth.toNat = N := by omega
    have h9 : (((N : Int) + 1) ≤ 9223372036854775807 ∧ ((N : Int) + 1) * 48 ≤ 140737488355328) = True := by simp; omega
    have h10 : (0 ≤ (N : Int) + 1) = True := by simp; omega
    have hN : ((N : Int) + 1).toNat = N + 1 := by omega
    have hz := keysTo_zero D K
    have ha := keysTo_all D K
    have hS := keysTo_size D K
    rw [eN2] at hz ha hS
    have hlen : (keysOn D K).length = N + 1 := by simp [keysOn, eN2]
    rcases hx with ⟨rfl, rfl, rfl⟩ | ⟨rfl, rfl, rfl⟩
    · simp [c56, r56, rules, Space.pv, Space.cells, Pfx.pv, Pfx.cells]
      refine pureK_by (depth_spec s.d0) ?_
      rw [eN]
      simp (disch := omega) [rules, w64_id, h9, h10, hN]
      refine pwp_loop mixed (fun m st => ∃ j : Nat, j + m = N + 1 ∧ st.t 2 = i 0 ∧
        st.t 4 = .ept [i p.a0, i p.a1, i p.k0.kind, i p.k0.len, u p.k0.hi, u p.k0.lo, tx p.k0.path, i p.k1.kind, i p.k1.len, u p.k1.hi, u p.k1.lo, tx p.k1.path] 0 ∧
        st.t 7 = .ept [i s.d0.kind, i s.d0.side, i s.d0.step] 0 ∧ st.t 8 = .hsl 0 0 (N + 1) (N + 1) ∧ st.t 19 = i ((N : Int) + 1) ∧ st.t 20 = i j ∧ st.H = [.cells (keysTo s.d0 p.k0 j).flatten]) (N + 1) ⟨0, by simp [rules, hz]⟩ ?_
      rintro m ⟨t, H⟩ ⟨j, h1, h2, h4, h7, h8, h19, h20, hH⟩
      simp only at h2 h4 h7 h8 h19 h20 hH
      subst hH
      by_cases hj : j < N + 1
      · have hj' : (j : Int) < (N : Int) + 1 := by omega
        simp [rules, h2, h4, h7, h8, h19, h20, hj']
        refine pureK_by (dcut_spec s.d0 j p.k0 hK) ?_
        have hset := setAt_flatten (k := 5) (keysTo_len (d := s.d0) (k := p.k0) (n := j)) (j := j) (by rw [hS]; exact hj) (l := (s.d0.cut (j : Nat) p.k0).cells) (by simp [Key.cells])
        rw [keysTo_succ] at hset
        simp only [Key.cells] at hset
        have c1 : j * 5 + 5 ≤ (List.map List.length (keysTo s.d0 p.k0 j)).sum := by
          rw [← List.length_flatten, flatten_len' keysTo_len, hS]; omega
        have c2 : List.take (j * 5) (keysTo s.d0 p.k0 j).flatten ++ i (s.d0.cut (j : Nat) p.k0).kind :: i (s.d0.cut (j : Nat) p.k0).len :: u (s.d0.cut (j : Nat) p.k0).hi :: u (s.d0.cut (j : Nat) p.k0).lo :: tx (s.d0.cut (j : Nat) p.k0).path :: List.drop (j * 5 + 5) (keysTo s.d0 p.k0 j).flatten = (keysTo s.d0 p.k0 (j + 1)).flatten := by
          unfold setAt at hset
          split at hset
          · simpa using hset
          · cases hset
        simp (disch := omega) [rules, h2, h4, h7, h8, h19, h20, hj', w64_id, Key.pv, Key.cells, c1, c2]
        exact ⟨m - 1, by omega, j + 1, by omega, by simp, rfl⟩
      · have hj' : ¬ (j : Int) < (N : Int) + 1 := by omega
        have : j = N + 1 := by omega
        subst this
        simp [rules, h2, h4, h7, h8, h19, h20, hlen, ha]
        exact ⟨0, N + 1, ⟨rfl, rfl⟩, Nat.le_refl _, rfl⟩
    · simp [c56, r56, rules, Space.pv, Space.cells, Pfx.pv, Pfx.cells]
      refine pureK_by (depth_spec s.d1) ?_
      rw [eN]
      simp (disch := omega) [rules, w64_id, h9, h10, hN]
      refine pwp_loop mixed (fun m st => ∃ j : Nat, j + m = N + 1 ∧ st.t 2 = i 1 ∧
        st.t 4 = .ept [i p.a0, i p.a1, i p.k0.kind, i p.k0.len, u p.k0.hi, u p.k0.lo, tx p.k0.path, i p.k1.kind, i p.k1.len, u p.k1.hi, u p.k1.lo, tx p.k1.path] 0 ∧
        st.t 7 = .ept [i s.d1.kind, i s.d1.side, i s.d1.step] 0 ∧ st.t 8 = .hsl 0 0 (N + 1) (N + 1) ∧ st.t 19 = i ((N : Int) + 1) ∧ st.t 20 = i j ∧ st.H = [.cells (keysTo s.d1 p.k1 j).flatten]) (N + 1) ⟨0, by simp [rules, hz]⟩ ?_
      rintro m ⟨t, H⟩ ⟨j, h1, h2, h4, h7, h8, h19, h20, hH⟩
      simp only at h2 h4 h7 h8 h19 h20 hH
      subst hH
      by_cases hj : j < N + 1
      · have hj' : (j : Int) < (N : Int) + 1 := by omega
        simp [rules, h2, h4, h7, h8, h19, h20, hj']
        refine pureK_by (dcut_spec s.d1 j p.k1 hK) ?_
        have hset := setAt_flatten (k := 5) (keysTo_len (d := s.d1) (k := p.k1) (n := j)) (j := j) (by rw [hS]; exact hj) (l := (s.d1.cut (j : Nat) p.k1).cells) (by simp [Key.cells])
        rw [keysTo_succ] at hset
        simp only [Key.cells] at hset
        have c1 : j * 5 + 5 ≤ (List.map List.length (keysTo s.d1 p.k1 j)).sum := by
          rw [← List.length_flatten, flatten_len' keysTo_len, hS]; omega
        have c2 : List.take (j * 5) (keysTo s.d1 p.k1 j).flatten ++ i (s.d1.cut (j : Nat) p.k1).kind :: i (s.d1.cut (j : Nat) p.k1).len :: u (s.d1.cut (j : Nat) p.k1).hi :: u (s.d1.cut (j : Nat) p.k1).lo :: tx (s.d1.cut (j : Nat) p.k1).path :: List.drop (j * 5 + 5) (keysTo s.d1 p.k1 j).flatten = (keysTo s.d1 p.k1 (j + 1)).flatten := by
          unfold setAt at hset
          split at hset
          · simpa using hset
          · cases hset
        simp (disch := omega) [rules, h2, h4, h7, h8, h19, h20, hj', w64_id, Key.pv, Key.cells, c1, c2]
        exact ⟨m - 1, by omega, j + 1, by omega, by simp, rfl⟩
      · have hj' : ¬ (j : Int) < (N : Int) + 1 := by omega
        have : j = N + 1 := by omega
        subst this
        simp [rules, h2, h4, h7, h8, h19, h20, hlen, ha]
        exact ⟨0, N + 1, ⟨rfl, rfl⟩, Nat.le_refl _, rfl⟩
  cases b
  · have := key s.d0 p.k0 0 (.inl ⟨rfl, rfl, rfl⟩)
    simpa [Space.dim, Pfx.key] using this
  · have := key s.d1 p.k1 1 (.inr ⟨rfl, rfl, rfl⟩)
    simpa [Space.dim, Pfx.key] using this
end Go.Pi.M
namespace Go.Pi.M
open Go Go.Pi Go.Proofs
set_option maxRecDepth 10000

/-- The nodes of one height, from a on: n of them. -/
def rowFrom (h a : Int) (n : Nat) : List (Int × Int) := (List.range n).map fun (j : Nat) => (a + (j : Int), h - (a + (j : Int)))
theorem rowFrom_succ (h a : Int) (n : Nat) : rowFrom h a (n + 1) = (a, h - a) :: rowFrom h (a + 1) n := by
  unfold rowFrom
  rw [List.range_succ_eq_map]
  simp only [List.map_cons, List.map_map]
  congr 1
  · simp
  · apply List.map_congr_left
    intro j _
    simp only [Function.comp_apply, Nat.succ_eq_add_one, Prod.mk.injEq]
    omega
def Space.row (s : Space) (h : Int) : List (Int × Int) := rowFrom h (max 0 (h - s.top.a1)) (min h s.top.a0 - max 0 (h - s.top.a1) + 1).toNat
def Space.rows (s : Space) : Int → Nat → List (Int × Int)
  | _, 0 => []
  | h, n + 1 => s.row h ++ s.rows (h + 1) n
def Space.nodes (s : Space) : List (Int × Int) := s.rows 0 (s.top.a0 + s.top.a1 + 1).toNat
/-- What is given for nodes. -/
def given : Nat → List (Int × Int) → List (List PV)
  | _, [] => []
  | n, (a, b) :: r => [i n, .agg [i a, i b]] :: given (n + 1) r
theorem given_append : ∀ (n : Nat) (l r : List (Int × Int)), given n (l ++ r) = given n l ++ given (n + l.length) r
  | _, [], _ => by simp [given]
  | n, (a, b) :: l, r => by simp only [List.cons_append, given, given_append (n + 1) l r, List.length_cons]; congr 3; omega
theorem given_len : ∀ (n : Nat) (l : List (Int × Int)), (given n l).length = l.length
  | _, [] => rfl
  | n, (a, b) :: l => by simp [given, given_len (n + 1) l]

theorem rowFrom_len (h a : Int) (n : Nat) : (rowFrom h a n).length = n := by simp [rowFrom]
theorem rows_len (s : Space) : ∀ (n : Nat) (h : Int), (s.rows h n).length ≤ n * 129
  | 0, _ => by simp [Space.rows]
  | n + 1, h => by
    have := rows_len s n (h + 1)
    have hb := top_bound s
    rw [Space.rows, List.length_append, Space.row, rowFrom_len]
    omega
theorem nodes_len (s : Space) : s.nodes.length ≤ 40000 := by
  have := rows_len s (s.top.a0 + s.top.a1 + 1).toNat 0
  have hb := top_bound s
  unfold Space.nodes
  omega
theorem walk_iter (s : Space) (hs : s.sound = true) (H1 : List PObj) : Iter Tryz.prog 78 [.ept s.cells 0] H1 [] (fun xs => xs = given 0 s.nodes) (fun pre => pre <+: given 0 s.nodes) := by
  intro Y lid I X hlid hI hX h0 hround
  refine SumY.run mixed is78 (by simp [n78]) ?_
  have hb := top_bound s
  simp [c78, r78, rules, Space.cells]
  refine pureK_by (sound_spec s) ?_
  rw [hs]
  simp [rules]
  refine pureK_by (tall_spec s) ?_
  simp (disch := omega) [rules, w64_id]
  refine pwp_loop mixed (fun m st => ∃ (h : Nat) (pre : List (Int × Int)), (h : Int) + m = s.top.a0 + s.top.a1 + 1 ∧ s.nodes = pre ++ s.rows h m ∧ st.t 0 = .yld lid ∧
    st.t 1 = .ept [i s.n, i s.d0.kind, i s.d0.side, i s.d0.step, i s.d1.kind, i s.d1.side, i s.d1.step] 0 ∧ st.t 3 = i pre.length ∧ st.t 13 = i (s.top.a0 + s.top.a1 + 1) ∧ st.t 14 = i h ∧ H1.length ≤ st.H.length ∧ I (given 0 pre) st.H) (s.top.a0 + s.top.a1 + 1).toNat
    ⟨0, [], by omega, by simp [Space.nodes], by simp [rules, given, h0]⟩ ?_
  rintro m ⟨t, H⟩ ⟨h, pre, h1, hpre, ht0, ht1, ht3, ht13, ht14, hH, hIp⟩
  simp only at ht0 ht1 ht3 ht13 ht14 hH hIp
  cases m with
  | zero =>
    have e1 : ¬ (h : Int) < s.top.a0 + s.top.a1 + 1 := by omega
    have e2 : s.nodes = pre := by simpa [Space.rows] using hpre
    simp [rules, ht13, ht14, e1]
    rw [e2]
    exact ⟨hH, .inl hIp⟩
  | succ m =>
    have e1 : (h : Int) < s.top.a0 + s.top.a1 + 1 := by omega
    simp [rules, ht0, ht1, ht3, ht13, ht14, e1]
    refine pureK_by (span_spec s h (by omega)) ?_
    simp [rules, ht0, ht1, ht3, ht13, ht14]
    rw [Space.rows] at hpre
    refine pwp_loop mixed (fun n' st => ∃ (a : Int) (pre : List (Int × Int)), (n' : Int) = max 0 (min (h : Int) s.top.a0 - a + 1) ∧ 0 ≤ a ∧ a ≤ 1000 ∧ s.nodes = pre ++ (rowFrom h a n' ++ s.rows (h + 1) m) ∧ st.t 0 = .yld lid ∧
      st.t 1 = .ept [i s.n, i s.d0.kind, i s.d0.side, i s.d0.step, i s.d1.kind, i s.d1.side, i s.d1.step] 0 ∧ st.t 3 = i pre.length ∧ st.t 4 = i h ∧ st.t 6 = i (min (h : Int) s.top.a0) ∧ st.t 7 = i a ∧ st.t 13 = i (s.top.a0 + s.top.a1 + 1) ∧ st.t 14 = i h ∧ H1.length ≤ st.H.length ∧ I (given 0 pre) st.H)
      (min (h : Int) s.top.a0 - max 0 (h - s.top.a1) + 1).toNat ⟨max 0 (h - s.top.a1), pre, by omega, by omega, by omega, by rw [hpre]; rfl, by simp [rules, ht0, ht1, ht3, ht13, ht14, hH, hIp]⟩ ?_
    clear hpre hIp ht0 ht1 ht3 ht13 ht14 hH pre
    rintro n' ⟨t, H⟩ ⟨a, pre, hn, ha0, ha1, hpre, ht0, ht1, ht3, ht4, ht6, ht7, ht13, ht14, hH, hIp⟩
    simp only at ht0 ht1 ht3 ht4 ht6 ht7 ht13 ht14 hH hIp
    cases n' with
    | zero =>
      have e2 : ¬ a ≤ min (h : Int) s.top.a0 := by omega
      simp [rules, ht0, ht1, ht3, ht13, ht14, ht6, ht7, e2]
      have e3 : w64 ((h : Int) + 1) = (h : Int) + 1 := w64_id (by omega) (by omega)
      rw [e3]
      refine ⟨m, by omega, h + 1, by omega, pre, ?_, rfl, by simp, hH, hIp⟩
      rw [hpre]; simp [rowFrom]
    | succ n' =>
      have e2 : a ≤ min (h : Int) s.top.a0 := by omega
      simp (disch := omega) [rules, ht0, ht1, ht3, ht4, ht6, ht7, e2, w64_id]
      rw [rowFrom_succ] at hpre
      have hg : given 0 (pre ++ [(a, (h : Int) - a)]) = given 0 pre ++ [[i pre.length, .agg [i a, i ((h : Int) - a)]]] := by rw [given_append]; simp [given]
      have hpf : given 0 pre ++ [[i pre.length, .agg [i a, i ((h : Int) - a)]]] <+: given 0 s.nodes := by
        rw [← hg, hpre]
        refine ⟨given (0 + (pre ++ [(a, (h : Int) - a)]).length) (rowFrom h (a + 1) n' ++ s.rows (h + 1) m), ?_⟩
        rw [← given_append]
        simp
      have hnl := nodes_len s
      have hpl : pre.length < 40000 := by
        have := congrArg List.length hpre
        simp at this; omega
      obtain ⟨hex, hY⟩ := hround (given 0 pre) [i pre.length, .agg [i a, i ((h : Int) - a)]] H hpf hIp hH (by simp)
      refine yldK_by hY hex ?_
      rintro r H' ⟨hk, ⟨rfl, hI'⟩ | ⟨rfl, hX'⟩⟩
      · have hH' : H1.length ≤ H'.length := Nat.le_trans hH hk.len
        simp (disch := omega) [rules, q_bo, ht0, ht1, ht3, ht4, ht6, ht7, ht13, ht14, w64_id]
        rw [← hg] at hI'
        refine ⟨n', by omega, a + 1, by omega, by omega, by omega, pre ++ [(a, (h : Int) - a)], ?_, by simp, rfl, hH', hI'⟩
        rw [hpre]; simp
      · have hH' : H1.length ≤ H'.length := Nat.le_trans hH hk.len
        simp [rules, q_bo]
        exact ⟨hH', .inr hX'⟩
end Go.Pi.M
namespace Go.Pi.M
open Go Go.Pi Go.Proofs
set_option maxRecDepth 10000

def pfxs (l : List Pfx) : PV := .slc l.isEmpty (l.map Pfx.pv)
theorem pfxs_strip (l : List Pfx) : (pfxs l).strip = pfxs l := by cases l <;> simp [pfxs, PV.strip]
theorem pfxs_len (l : List Pfx) : lenPV (pfxs l) = some (i l.length) := by simp [pfxs, v_len]
theorem pfxs_free (l : List Pfx) : RefFree (pfxs l) := by simp [frees, pfxs, Pfx.pv, Pfx.cells]
/-- What is over a prefix, at these nodes. -/
def Space.overs (s : Space) (p : Pfx) (l : List (Int × Int)) : List Pfx :=
  (l.filter fun ab => decide (p.a0 ≤ ab.1) && decide (p.a1 ≤ ab.2)).map fun ab => ⟨ab.1, ab.2, s.d0.cut ab.1 p.k0, s.d1.cut ab.2 p.k1⟩
def Space.all (s : Space) (p : Pfx) : List Pfx := if s.right p = true then s.overs p s.nodes else []
theorem overs_snoc (s : Space) (p : Pfx) (l : List (Int × Int)) (a b : Int) : s.overs p (l ++ [(a, b)]) = if p.a0 ≤ a ∧ p.a1 ≤ b then s.overs p l ++ [⟨a, b, s.d0.cut a p.k0, s.d1.cut b p.k1⟩] else s.overs p l := by
  unfold Space.overs
  rw [List.filter_append, List.map_append]
  by_cases h : p.a0 ≤ a ∧ p.a1 ≤ b
  · rw [if_pos h]; simp [h.1, h.2]
  · rw [if_neg h]
    have : (decide (p.a0 ≤ a) && decide (p.a1 ≤ b)) = false := by
      rw [Bool.eq_false_iff]; simp; omega
    simp [this]
theorem overs_len (s : Space) (p : Pfx) (l : List (Int × Int)) : (s.overs p l).length ≤ l.length := by
  unfold Space.overs
  rw [List.length_map]
  exact List.length_filter_le _ _
theorem row_mem {s : Space} {h : Int} {ab : Int × Int} (hm : ab ∈ s.row h) : 0 ≤ ab.1 ∧ ab.1 ≤ s.top.a0 ∧ ab.1 + ab.2 = h ∧ ab.2 ≤ s.top.a1 ∧ 0 ≤ ab.2 := by
  unfold Space.row rowFrom at hm
  obtain ⟨j, hj, rfl⟩ := List.mem_map.1 hm
  have := List.mem_range.1 hj
  simp only
  omega
theorem rows_mem {s : Space} : ∀ {n : Nat} {h : Int} {ab : Int × Int}, ab ∈ s.rows h n → 0 ≤ ab.1 ∧ ab.1 ≤ s.top.a0 ∧ h ≤ ab.1 + ab.2 ∧ ab.1 + ab.2 < h + n ∧ ab.2 ≤ s.top.a1 ∧ 0 ≤ ab.2
  | 0, _, _, hm => by simp [Space.rows] at hm
  | n + 1, h, ab, hm => by
    rw [Space.rows, List.mem_append] at hm
    rcases hm with hm | hm
    · have := row_mem hm; omega
    · have := rows_mem hm; omega
theorem nodes_mem {s : Space} {ab : Int × Int} (hm : ab ∈ s.nodes) : 0 ≤ ab.1 ∧ ab.1 ≤ s.top.a0 ∧ ab.2 ≤ s.top.a1 ∧ 0 ≤ ab.2 := by
  have := rows_mem hm; omega
theorem prefix_given {l : List (Int × Int)} {pre : List (List PV)} {x : List PV} (h : pre ++ [x] <+: given 0 l) : ∃ d a b r, l = d ++ (a, b) :: r ∧ pre = given 0 d ∧ x = [i d.length, .agg [i a, i b]] := by
  have hlen := h.length_le
  rw [given_len, List.length_append] at hlen
  simp at hlen
  obtain ⟨d, r, hd, rfl⟩ : ∃ d r, d.length = pre.length ∧ l = d ++ r := ⟨l.take pre.length, l.drop pre.length, by rw [List.length_take]; omega, (List.take_append_drop _ _).symm⟩
  cases r with
  | nil => simp at hlen; omega
  | cons ab r =>
    obtain ⟨a, b⟩ := ab
    obtain ⟨t, ht⟩ := h
    rw [given_append] at ht
    simp only [Nat.zero_add, given, List.append_assoc] at ht
    have := List.append_inj ht (by rw [given_len]; omega)
    refine ⟨d, a, b, r, rfl, this.1, ?_⟩
    have h2 := this.2
    simp at h2
    exact h2.1
theorem i_inj {a b : Int} (h : i a = i b) : a = b := by injection h with h; injection h
theorem given_inj : ∀ {n : Nat} {l r : List (Int × Int)}, given n l = given n r → l = r
  | _, [], [], _ => rfl
  | _, [], (a, b) :: r, h => by simp [given] at h
  | _, (a, b) :: l, [], h => by simp [given] at h
  | n, (a, b) :: l, (c, d) :: r, h => by
    simp only [given, List.cons.injEq, PV.agg.injEq, and_true, true_and] at h
    rw [given_inj h.2, i_inj h.1.1, i_inj h.1.2]
theorem keysOn_at {d : Dim} {k : Key} {a : Int} (h0 : 0 ≤ a) (h1 : a ≤ d.depth) : elemAt ((keysOn d k).map Key.pv) a = some (d.cut a k).pv := by
  obtain ⟨n, rfl⟩ : ∃ n : Nat, a = n := ⟨a.toNat, by omega⟩
  have : n < d.depth.toNat + 1 := by omega
  simp [elemAt, keysOn, this]

theorem all_spec (s : Space) (p : Pfx) (hp : p.ok) : Pure Tryz.prog 37 [s.pv, p.pv] (pfxs (s.all p)) := by
  refine Pure.run mixed is37 (by simp [n37]) (pfxs_free _) (by simp [frees, Space.pv, Space.cells, Pfx.pv, Pfx.cells]) ?_
  simp [c37, r37, rules, Space.pv, Space.cells, Pfx.pv, Pfx.cells]
  refine pureK_by (right_spec s p hp) ?_
  cases e : s.right p
  · simp [rules, Space.all, e, pfxs]
  simp [rules]
  refine pureK_by (keysOver_spec s p false hp) ?_
  simp [rules]
  refine pureK_by (keysOver_spec s p true hp) ?_
  simp [rules]
  refine pureK_by (walk_spec s) ?_
  simp [rules, Space.cells]
  generalize hT : (upd _ 21 _ : Nat → PV) = T
  have t3 : T 3 = .ept [i p.a0, i p.a1, i p.k0.kind, i p.k0.len, u p.k0.hi, u p.k0.lo, tx p.k0.path, i p.k1.kind, i p.k1.len, u p.k1.hi, u p.k1.lo, tx p.k1.path] 0 := by rw [← hT]; simp [rules]
  have t5 : T 5 = .ept [.slc false ((keysOn s.d0 p.k0).map Key.pv), .slc false ((keysOn s.d1 p.k1).map Key.pv)] 0 := by rw [← hT]; simp [rules, Space.dim, Pfx.key]
  have t6 : T 6 = .ptr 0 0 := by rw [← hT]; simp [rules]
  have t21 : T 21 = .clo 78 [.ept s.cells 0] := by rw [← hT]; simp [rules, Space.cells]
  clear hT
  refine pwp_rangef (g := 78) (cap := [.ept s.cells 0]) (rd := []) (S := fun xs => xs = given 0 s.nodes) (Sp := fun pre => pre <+: given 0 s.nodes) mixed rfl (by simp [rules, t21]) (by simp) (fun r => walk_iter s (right_sound e) _)
    (fun pre x h => by obtain ⟨d, a, b, r, _, _, rfl⟩ := prefix_given h; rfl)
    (fun pre H' => ∃ d, pre = given 0 d ∧ H'[0]? = some (.cells [.slc true ((s.overs p d).map Pfx.pv)])) (fun _ _ => False)
    (fun pre H' H'' ⟨d, h1, h2⟩ hs => ⟨d, h1, by rw [hs 0 (by simp)]; exact h2⟩) (fun _ _ _ h _ => h) ⟨[], rfl, rfl⟩ ?_ ?_ ?_ (fun _ _ h => h.elim)
  · rintro pre x H' hsp ⟨d', hd', hH⟩ hlt _
    obtain ⟨d, a, b, r, hn, hpre, rfl⟩ := prefix_given hsp
    rw [hpre] at hd'
    have hdd := given_inj hd'
    rw [← hdd] at hH
    have hm := nodes_mem (s := s) (ab := (a, b)) (by rw [hn]; simp)
    obtain ⟨R, rfl⟩ : ∃ R, H' = .cells [.slc true ((s.overs p d).map Pfx.pv)] :: R := by
      cases H' with
      | nil => simp at hH
      | cons o R => simp at hH; exact ⟨R, by rw [hH]⟩
    have htop : s.top.a0 = s.d0.depth ∧ s.top.a1 = s.d1.depth := by unfold Space.top; rw [if_pos (right_sound e)]; exact ⟨rfl, rfl⟩
    rw [htop.1, htop.2] at hm
    have k0 := keysOn_at (d := s.d0) (k := p.k0) (a := a) hm.1 hm.2.1
    have k1 := keysOn_at (d := s.d1) (k := p.k1) (a := b) hm.2.2.2 hm.2.2.1
    have hl := overs_len s p d
    have hnl := nodes_len s
    have hdl : d.length < 40000 := by have := congrArg List.length hn; simp at this; omega
    have h9 : ((s.overs p d).length + 1) * 112 ≤ 140737488355328 ∧ (s.overs p d).length + 1 ≤ 9223372036854775807 := by omega
    have hall : ∀ x ∈ s.overs p d, x.pv.cells.length = 12 := fun x _ => rfl
    have hgd : given 0 d ++ [[i d.length, .agg [i a, i b]]] = given 0 (d ++ [(a, b)]) := by rw [given_append]; simp [given]
    have hos := overs_snoc s p d a b
    by_cases g1 : p.a0 ≤ a
    · by_cases g2 : p.a1 ≤ b
      · rw [if_pos ⟨g1, g2⟩] at hos
        simp (disch := omega) [rules, updL, t3, t5, t6, g1, g2, k0, k1, h9, hall, s_slcM, Key.pv, Key.cells]
        rw [show ([PV.slc true (List.map Pfx.pv (s.overs p d))][0]? : Option PV) = some (PV.slc true (List.map Pfx.pv (s.overs p d))) from rfl]
        simp (disch := omega) [rules, t3, t5, t6, k0, k1, h9, hall, s_slcM, Key.pv, Key.cells]
        rw [if_pos hall]
        simp [rules, t6]
        refine ⟨⟨by simp, fun id h1 h2 => ?_, fun _ h => absurd h (by simp)⟩, d ++ [(a, b)], by rw [hpre]; exact hgd, ?_⟩
        · cases id with
          | zero => omega
          | succ id => rfl
        · rw [hos]; simp [Pfx.pv, Pfx.cells]
      · rw [if_neg (fun h => g2 h.2)] at hos
        simp [rules, updL, t3, t5, t6, g1, g2]
        refine ⟨⟨Nat.le_refl _, fun _ _ _ => rfl, fun _ _ => rfl⟩, d ++ [(a, b)], by rw [hpre]; exact hgd, by rw [hos]⟩
    · rw [if_neg (fun h => g1 h.1)] at hos
      simp [rules, updL, t3, t5, t6, g1]
      refine ⟨⟨Nat.le_refl _, fun _ _ _ => rfl, fun _ _ => rfl⟩, d ++ [(a, b)], by rw [hpre]; exact hgd, by rw [hos]⟩
  · rintro pre x H' hsp ⟨d', hd', hH⟩ hlt _
    obtain ⟨d, a, b, r, hn, hpre, rfl⟩ := prefix_given hsp
    have h0 : 0 < H'.length := by have := hlt; simp at this; omega
    refine ⟨H'.set 0 (.cells [.slc true ((s.overs p (d ++ [(a, b)])).map Pfx.pv)]), ⟨by simp, fun id h1 _ => ?_, by simp⟩, d ++ [(a, b)], ?_, by simp [h0]⟩
    · simp at h1; rw [List.getElem?_set_ne (by omega)]
    · rw [hpre, given_append]; simp [given]
  · rintro xs H' rfl ⟨d, hd, hH⟩ hlt
    cases given_inj hd
    have ho : objCells H' 0 = some [.slc true ((s.overs p s.nodes).map Pfx.pv)] := by simp [objCells, hH]
    simp [rules, t6, ho, s_slcM]
    simp [Space.all, e, pfxs]
end Go.Pi.M
namespace Go.Pi.M
open Go Go.Pi Go.Proofs
set_option maxRecDepth 10000

structure Load where
  p : Pfx
  w : BitVec 64
  deriving DecidableEq, Inhabited
def Load.cells (x : Load) : List PV := [i x.p.a0, i x.p.a1, i x.p.k0.kind, i x.p.k0.len, u x.p.k0.hi, u x.p.k0.lo, tx x.p.k0.path, i x.p.k1.kind, i x.p.k1.len, u x.p.k1.hi, u x.p.k1.lo, tx x.p.k1.path, u x.w]
def Load.pv (x : Load) : PV := .agg x.cells
structure Node where
  p : Pfx
  g : BitVec 64
  d : BitVec 64
  deriving DecidableEq, Inhabited
def Node.cells (x : Node) : List PV := [i x.p.a0, i x.p.a1, i x.p.k0.kind, i x.p.k0.len, u x.p.k0.hi, u x.p.k0.lo, tx x.p.k0.path, i x.p.k1.kind, i x.p.k1.len, u x.p.k1.hi, u x.p.k1.lo, tx x.p.k1.path, u x.g, u x.d]
def Node.pv (x : Node) : PV := .agg x.cells
def loads (l : List Load) : PV := .slc l.isEmpty (l.map Load.pv)
def nodesV (l : List Node) : PV := .slc l.isEmpty (l.map Node.pv)
theorem loads_strip (l : List Load) : (loads l).strip = loads l := by cases l <;> simp [loads, PV.strip]
theorem loads_len (l : List Load) : lenPV (loads l) = some (i l.length) := by simp [loads, v_len]
theorem nodesV_strip (l : List Node) : (nodesV l).strip = nodesV l := by cases l <;> simp [nodesV, PV.strip]
theorem nodesV_len (l : List Node) : lenPV (nodesV l) = some (i l.length) := by simp [nodesV, v_len]
theorem loads_free (l : List Load) : RefFree (loads l) := by simp [frees, loads, Load.pv, Load.cells]
theorem nodesV_free (l : List Node) : RefFree (nodesV l) := by simp [frees, nodesV, Node.pv, Node.cells]

def placeOf (a : Int) : Int := if a.tmod 2 = 0 then 0 else 1
theorem placeOf_spec (a : Int) : Pure Tryz.prog 7 [i a] (i (placeOf a)) := by
  refine Pure.run mixed is7 (by simp [n7]) (by simp [frees]) (by simp [frees]) ?_
  by_cases h : a.tmod 2 = 0 <;> simp [c7, r7, rules, placeOf, h]

def sumW : List Load → BitVec 64 → BitVec 64
  | [], a => a
  | x :: r, a => sumW r (a + x.w)
def total (l : List Load) : BitVec 64 := sumW l 0
theorem total_spec (l : List Load) (o : Bool) (hl : l.length ≤ 1000000) : Pure Tryz.prog 26 [.slc o (l.map Load.pv)] (u (total l)) := by
  refine Pure.run mixed is26 (by simp [n26]) (by simp [frees]) (by simp [frees, Load.pv, Load.cells]) ?_
  simp [c26, r26, rules, s_slcM]
  refine pwp_loop mixed (fun k s => ∃ d r a, l = d ++ r ∧ k = r.length ∧ sumW r a = total l ∧ s.t 0 = .slc (o && l.isEmpty) (l.map Load.pv) ∧ s.t 3 = u a ∧ s.t 4 = i d.length) l.length ⟨[], l, 0, by simp [rules, total]⟩ ?_
  rintro k ⟨t, H⟩ ⟨d, r, a, h1, h2, h3, t0, t3, t4⟩
  simp only at t0 t3 t4
  cases r with
  | nil =>
    have e1 : ¬ (d.length : Int) < l.length := by rw [h1]; simp
    simp only [sumW] at h3
    simp [rules, t0, t3, t4, e1, s_slcM, h3]
  | cons x r =>
    have e1 : (d.length : Int) < l.length := by rw [h1]; simp; omega
    have e2 : elemAt (l.map Load.pv) d.length = some x.pv := elemAt_mid h1 rfl
    have e3 : l.length = d.length + (r.length + 1) := by rw [h1]; simp
    simp (disch := omega) [rules, t0, t3, t4, e1, e2, s_slcM, w64_id, Load.pv, Load.cells]
    exact ⟨r.length, by simp [h2], d ++ [x], r, by simp [h1], rfl, _, h3, rfl, by simp⟩

def sumOver (s : Space) (p : Pfx) : List Load → BitVec 64 → BitVec 64
  | [], a => a
  | x :: r, a => sumOver s p r (if s.over p x.p = true then a + x.w else a)
theorem weight23_spec (s : Space) (l : List Load) (p : Pfx) (o : Bool) (hl : l.length ≤ 1000000) (hp : p.ok) (hx : ∀ x ∈ l, x.p.ok) : Pure Tryz.prog 46 [s.pv, .slc o (l.map Load.pv), p.pv] (u (sumOver s p l 0)) := by
  refine Pure.run mixed is46 (by simp [n46]) (by simp [frees]) (by simp [frees, Load.pv, Load.cells, Space.pv, Space.cells, Pfx.pv, Pfx.cells]) ?_
  simp [c46, r46, rules, s_slcM, Space.pv, Space.cells, Pfx.pv, Pfx.cells]
  refine pwp_loop mixed (fun k st => ∃ d r a, l = d ++ r ∧ k = r.length ∧ sumOver s p r a = sumOver s p l 0 ∧ st.t 1 = .slc (o && l.isEmpty) (l.map Load.pv) ∧
    st.t 3 = .ept [i s.n, i s.d0.kind, i s.d0.side, i s.d0.step, i s.d1.kind, i s.d1.side, i s.d1.step] 0 ∧
    st.t 5 = .ept [i p.a0, i p.a1, i p.k0.kind, i p.k0.len, u p.k0.hi, u p.k0.lo, tx p.k0.path, i p.k1.kind, i p.k1.len, u p.k1.hi, u p.k1.lo, tx p.k1.path] 0 ∧ st.t 7 = u a ∧ st.t 8 = i d.length) l.length ⟨[], l, 0, by simp [rules]⟩ ?_
  rintro k ⟨t, H⟩ ⟨d, r, a, h1, h2, h3, t1, t3, t5, t7, t8⟩
  simp only at t1 t3 t5 t7 t8
  cases r with
  | nil =>
    have e1 : ¬ (d.length : Int) < l.length := by rw [h1]; simp
    simp only [sumOver] at h3
    simp [rules, t1, t7, t8, e1, s_slcM, h3]
  | cons x r =>
    have e1 : (d.length : Int) < l.length := by rw [h1]; simp; omega
    have e2 : elemAt (l.map Load.pv) d.length = some x.pv := elemAt_mid h1 rfl
    have e3 : l.length = d.length + (r.length + 1) := by rw [h1]; simp
    simp only [sumOver] at h3
    simp (disch := omega) [rules, t1, t3, t5, t7, t8, e1, e2, s_slcM, w64_id, Load.pv, Load.cells]
    refine pureK_by (over9_spec s p x.p hp (hx x (by rw [h1]; simp))) ?_
    cases g : s.over p x.p
    · rw [g] at h3
      simp (disch := omega) [rules, t1, t3, t5, t7, t8, s_slcM, w64_id]
      exact ⟨r.length, by simp [h2], d ++ [x], r, by simp [h1], rfl, a, by simpa using h3, rfl, by simp⟩
    · rw [g] at h3
      simp (disch := omega) [rules, t1, t3, t5, t7, t8, e2, s_slcM, w64_id, Load.pv, Load.cells]
      exact ⟨r.length, by simp [h2], d ++ [x], r, by simp [h1], rfl, _, by simpa using h3, rfl, by simp⟩

def placeAt (p : Pfx) : List Node → Nat → Int
  | [], _ => -1
  | x :: r, k => if x.p = p then k else placeAt p r (k + 1)
theorem place23_spec (l : List Node) (p : Pfx) (o : Bool) (hl : l.length ≤ 1000000) : Pure Tryz.prog 43 [.slc o (l.map Node.pv), p.pv] (i (placeAt p l 0)) := by
  refine Pure.run mixed is43 (by simp [n43]) (by simp [frees]) (by simp [frees, Node.pv, Node.cells, Pfx.pv, Pfx.cells]) ?_
  simp [c43, r43, rules, s_slcM, Pfx.pv, Pfx.cells]
  refine pwp_loop mixed (fun k st => ∃ d r, l = d ++ r ∧ k = r.length ∧ placeAt p r d.length = placeAt p l 0 ∧ st.t 0 = .slc (o && l.isEmpty) (l.map Node.pv) ∧
    st.t 3 = .ept [i p.a0, i p.a1, i p.k0.kind, i p.k0.len, u p.k0.hi, u p.k0.lo, tx p.k0.path, i p.k1.kind, i p.k1.len, u p.k1.hi, u p.k1.lo, tx p.k1.path] 0 ∧ st.t 5 = i d.length) l.length ⟨[], l, by simp [rules]⟩ ?_
  rintro k ⟨t, H⟩ ⟨d, r, h1, h2, h3, t0, t3, t5⟩
  simp only at t0 t3 t5
  cases r with
  | nil =>
    have e1 : ¬ (d.length : Int) < l.length := by rw [h1]; simp
    simp only [placeAt] at h3
    simp [rules, t0, t5, e1, s_slcM, ← h3]
  | cons x r =>
    have e1 : (d.length : Int) < l.length := by rw [h1]; simp; omega
    have e2 : elemAt (l.map Node.pv) d.length = some x.pv := elemAt_mid h1 rfl
    have e3 : l.length = d.length + (r.length + 1) := by rw [h1]; simp
    simp only [placeAt] at h3
    simp (disch := omega) [rules, t0, t3, t5, e1, e2, s_slcM, w64_id, Node.pv, Node.cells, pfxEq]
    by_cases g : x.p = p
    · rw [if_pos g] at h3
      simp [rules, g, t5, ← h3]
    · rw [if_neg g] at h3
      simp (disch := omega) [rules, g, t0, t3, t5, s_slcM, w64_id]
      exact ⟨r.length, by simp [h2], d ++ [x], r, by simp [h1], rfl, by simpa using h3, by simp⟩

def ins : List Node → Node → List Node
  | [], x => [x]
  | y :: r, x => if y.p.cmp x.p < 0 then y :: ins r x else x :: y :: r
theorem nodes_all (l : List Node) : (List.all (l.map Node.pv) fun p => p.cells.length == 14) = true := by simp [Node.pv, Node.cells, PV.cells]
theorem node_len (x : Node) : x.pv.cells.length = 14 := rfl
theorem node_stor (x : Node) : storable x.pv.cells = true := rfl
theorem slice_rest {α : Type} {f : α → PV} {k : Nat} (hk : ∀ x, (f x).cells.length = k) {l d r : List α} (h : l = d ++ r) {o : Bool} {j : Int} (hj : j = d.length) : slicePV (.slc o (l.map f)) (some (i j)) none none k = some (.slc false (r.map f)) := by
  subst hj
  have e1 : (0 : Int) ≤ d.length ∧ (d.length : Int) ≤ (l.map f).length := by rw [h]; simp; omega
  have e2 : ((l.map f).all fun p => p.cells.length == k) = true := by simp [hk]
  rw [v_slice2, b_none, Option.bind_some, b_some, if_pos e1, Option.bind_some, if_pos (.inr e2)]
  rw [h]
  simp only [List.length_map, List.map_append, List.length_append, Int.toNat_natCast]
  rw [List.take_of_length_le (by simp), List.drop_left' (by simp)]
theorem ins_mid {d r : List Node} {x : Node} (hd : ∀ y ∈ d, y.p.cmp x.p < 0) : ins (d ++ r) x = d ++ ins r x := by
  induction d with
  | nil => rfl
  | cons y d ih =>
    simp only [List.cons_append, ins]
    rw [if_pos (hd y (by simp)), ih fun z hz => hd z (by simp [hz])]
theorem with_spec (l : List Node) (x : Node) (o : Bool) (hl : l.length ≤ 1000000) : Pure Tryz.prog 44 [.slc o (l.map Node.pv), x.pv] (nodesV (ins l x)) := by
  refine Pure.run mixed is44 (by simp [n44]) (nodesV_free _) (by simp [frees, Node.pv, Node.cells]) ?_
  simp [c44, r44, rules, s_slcM, Node.pv, Node.cells]
  refine pwp_loop mixed (fun k st => ∃ d r, l = d ++ r ∧ k = r.length ∧ (∀ y ∈ d, y.p.cmp x.p < 0) ∧ st.t 0 = .slc (o && l.isEmpty) (l.map Node.pv) ∧
    st.t 3 = .ept [i x.p.a0, i x.p.a1, i x.p.k0.kind, i x.p.k0.len, u x.p.k0.hi, u x.p.k0.lo, tx x.p.k0.path, i x.p.k1.kind, i x.p.k1.len, u x.p.k1.hi, u x.p.k1.lo, tx x.p.k1.path, u x.g, u x.d] 0 ∧ st.t 5 = .slc true (d.map Node.pv) ∧ st.t 6 = i d.length) l.length ⟨[], l, by simp [rules]⟩ ?_
  rintro k ⟨t, H⟩ ⟨d, r, h1, h2, h3, t0, t3, t5, t6⟩
  simp only at t0 t3 t5 t6
  have hlen : l.length = d.length + r.length := by rw [h1]; simp
  have fin : ∀ (T : Nat → PV) (Q : Ex → St → Prop), True := fun _ _ => trivial
  have hs := slice_rest (f := Node.pv) (k := 14) (fun x => rfl) h1 (o := (o && l.isEmpty)) (j := d.length) rfl
  have h9 : (d.length + 1) * 128 ≤ 140737488355328 ∧ d.length + 1 ≤ 9223372036854775807 := by omega
  have h8 : (d.length + 1 + r.length) * 128 ≤ 140737488355328 ∧ d.length + 1 + r.length ≤ 9223372036854775807 := by omega
  have ha : ∀ (y : Node), y ∈ d → y.pv.cells.length = 14 := fun y _ => rfl
  have hb : ∀ (y : Node), y ∈ r → y.pv.cells.length = 14 ∧ storable y.pv.cells = true := fun y _ => ⟨rfl, rfl⟩
  cases r with
  | nil =>
    have e1 : ¬ (d.length : Int) < l.length := by rw [h1]; simp
    have el : ins l x = d ++ [x] := by rw [h1, ins_mid h3]; rfl
    simp (disch := omega) [rules, t0, t3, t5, t6, e1, s_slcM, h9, h8, hs, Node.pv, Node.cells]
    rw [el]
    cases d <;> simp [nodesV, PV.strip, Node.pv, Node.cells]
  | cons y r =>
    have e1 : (d.length : Int) < l.length := by rw [h1]; simp; omega
    have e2 : elemAt (l.map Node.pv) d.length = some y.pv := elemAt_mid h1 rfl
    simp (disch := omega) [rules, t0, t3, t5, t6, e1, e2, s_slcM, Node.pv, Node.cells]
    refine pureK_by (pcmp9_spec y.p x.p) ?_
    by_cases g : y.p.cmp x.p < 0
    · simp (disch := omega) [rules, t0, t3, t5, t6, e2, g, s_slcM, h9, w64_id, Node.pv, Node.cells]
      refine ⟨r.length, by simp [h2], d ++ [y], r, by simp [h1], rfl, ?_, by simp [Node.pv, Node.cells], by simp⟩
      intro z hz
      rcases List.mem_append.1 hz with hz | hz
      · exact h3 z hz
      · rw [List.mem_singleton.1 hz]; exact g
    · have el : ins l x = d ++ x :: y :: r := by rw [h1, ins_mid h3]; simp only [ins, if_neg g]
      have h8' : (d.length + 1 + (r.length + 1)) * 128 ≤ 140737488355328 ∧ d.length + 1 + (r.length + 1) ≤ 9223372036854775807 := by simp at h8; omega
      simp (disch := omega) [rules, t0, t3, t5, t6, g, s_slcM, h9, h8', hs, Node.pv, Node.cells]
      rw [el]
      cases d <;> simp [nodesV, PV.strip, Node.pv, Node.cells]

theorem eraseIdx_mid {d r : List Node} {x : Node} : (d ++ x :: r).eraseIdx d.length = d ++ r := by
  rw [List.eraseIdx_append_of_length_le (Nat.le_refl _)]; simp
/-- All but one place. -/
def outOf : List Node → Nat → Int → List Node
  | [], _, _ => []
  | x :: r, k, j => if (k : Int) = j then outOf r (k + 1) j else x :: outOf r (k + 1) j
theorem without_spec (l : List Node) (j : Int) (o : Bool) (hl : l.length ≤ 1000000) : Pure Tryz.prog 45 [.slc o (l.map Node.pv), i j] (nodesV (outOf l 0 j)) := by
  refine Pure.run mixed is45 (by simp [n45]) (nodesV_free _) (by simp [frees, Node.pv, Node.cells]) ?_
  simp [c45, r45, rules, s_slcM]
  refine pwp_loop mixed (fun k st => ∃ d r out, l = d ++ r ∧ k = r.length ∧ out.length ≤ d.length ∧ out ++ outOf r d.length j = outOf l 0 j ∧ st.t 0 = .slc (o && l.isEmpty) (l.map Node.pv) ∧ st.t 1 = i j ∧ st.t 5 = .slc true (out.map Node.pv) ∧ st.t 6 = i d.length) l.length ⟨[], l, [], by simp [rules]⟩ ?_
  rintro k ⟨t, H⟩ ⟨d, r, out, h1, h2, h3, h4, t0, t1, t5, t6⟩
  simp only at t0 t1 t5 t6
  have hlen : l.length = d.length + r.length := by rw [h1]; simp
  cases r with
  | nil =>
    have e1 : ¬ (d.length : Int) < l.length := by rw [h1]; simp
    simp only [outOf, List.append_nil] at h4
    simp [rules, t0, t5, t6, e1, s_slcM, nodesV, h4]
  | cons y r =>
    have e1 : (d.length : Int) < l.length := by rw [h1]; simp; omega
    have e2 : elemAt (l.map Node.pv) d.length = some y.pv := elemAt_mid h1 rfl
    have h9 : (out.length + 1) * 128 ≤ 140737488355328 ∧ out.length + 1 ≤ 9223372036854775807 := by omega
    simp only [outOf] at h4
    by_cases g : (d.length : Int) = j
    · rw [if_pos g] at h4
      have e1' : j < (l.length : Int) := by omega
      simp (disch := omega) [rules, t0, t1, t5, t6, e1, e1', g, s_slcM]
      have g2 : w64 (j + 1) = ((d ++ [y]).length : Int) := by rw [← g, w64_id (by omega) (by omega)]; simp
      exact ⟨r.length, by simp [h2], d ++ [y], r, by simp [h1], rfl, out, by simp; omega, by simpa using h4, rfl, by rw [g2]⟩
    · rw [if_neg g] at h4
      simp (disch := omega) [rules, t0, t1, t5, t6, e1, e2, g, s_slcM, h9, w64_id, Node.pv, Node.cells]
      refine ⟨r.length, by simp [h2], d ++ [y], r, by simp [h1], rfl, out ++ [y], by simp; omega, by simpa using h4, by simp [Node.pv, Node.cells], by simp⟩

def addN (l : List Node) (p : Pfx) (g d : BitVec 64) : List Node :=
  match placeAt p l 0 with
  | .ofNat n => ins (outOf l 0 n) { (l.getD n default) with g := (l.getD n default).g + g }
  | .negSucc _ => ins l ⟨p, g, d⟩
theorem placeAt_get {p : Pfx} : ∀ {l : List Node} {k : Nat}, 0 ≤ placeAt p l k → ∃ n : Nat, placeAt p l k = ((k + n : Nat) : Int) ∧ n < l.length
  | [], _, h => by simp [placeAt] at h
  | x :: r, k, h => by
    rw [placeAt] at h ⊢
    by_cases g : x.p = p
    · rw [if_pos g]; exact ⟨0, by simp, by simp⟩
    · rw [if_neg g] at h ⊢
      obtain ⟨n, h1, h2⟩ := placeAt_get h
      exact ⟨n + 1, by rw [h1]; congr 1; omega, by simp; exact h2⟩
theorem outOf_len : ∀ (l : List Node) (k : Nat) (j : Int), (outOf l k j).length ≤ l.length
  | [], _, _ => by simp [outOf]
  | x :: r, k, j => by
    have := outOf_len r (k + 1) j
    rw [outOf]; split <;> simp <;> omega
theorem add_spec (l : List Node) (p : Pfx) (g d : BitVec 64) (o : Bool) (hl : l.length ≤ 1000000) : Pure Tryz.prog 27 [.slc o (l.map Node.pv), p.pv, u g, u d] (nodesV (addN l p g d)) := by
  refine Pure.run mixed is27 (by simp [n27]) (nodesV_free _) (by simp [frees, Node.pv, Node.cells, Pfx.pv, Pfx.cells]) ?_
  simp [c27, r27, rules, s_slcM, Pfx.pv, Pfx.cells]
  refine pureK_by (place23_spec l p _ hl) ?_
  by_cases h : placeAt p l 0 < 0
  · obtain ⟨m, hm⟩ : ∃ m, placeAt p l 0 = .negSucc m := by
      cases e : placeAt p l 0 with
      | ofNat n => rw [e] at h; simp at h; omega
      | negSucc m => exact ⟨m, rfl⟩
    simp [rules, h, s_slcM]
    refine pureK_by (with_spec l ⟨p, g, d⟩ _ hl) ?_
    simp [rules, nodesV_strip, addN, hm]
  · obtain ⟨n, hn, hlt⟩ := placeAt_get (p := p) (l := l) (k := 0) (by omega)
    simp only [Nat.zero_add] at hn
    have e2 : elemAt (l.map Node.pv) n = some (l.getD n default).pv := by
      simp [elemAt, List.getD_eq_getElem?_getD, List.getElem?_eq_getElem hlt]
    have hm : addN l p g d = ins (outOf l 0 n) { (l.getD n default) with g := (l.getD n default).g + g } := by
      unfold addN
      rw [hn]
    rw [hm]
    generalize l.getD n default = y at e2
    have h' : ¬ (n : Int) < 0 := by omega
    simp [rules, hn, h', e2, s_slcM, Node.pv, Node.cells]
    refine pureK_by (without_spec l n _ hl) ?_
    simp [rules, nodesV_strip]
    refine pureK_by (with_spec (outOf l 0 n) { y with g := y.g + g } _ (Nat.le_trans (outOf_len _ _ _) hl)) ?_
    simp [rules, nodesV_strip]
end Go.Pi.M
namespace Go.Pi.M
open Go Go.Pi Go.Proofs
set_option maxRecDepth 10000

theorem ins_len : ∀ (l : List Node) (x : Node), (ins l x).length = l.length + 1
  | [], _ => rfl
  | y :: r, x => by rw [ins]; split; · simp [ins_len r x]
                    simp
theorem addN_len (l : List Node) (p : Pfx) (g d : BitVec 64) : (addN l p g d).length ≤ l.length + 1 := by
  unfold addN
  split
  · rename_i n _; rw [ins_len]; have := outOf_len l 0 (n : Int); omega
  · rw [ins_len]; omega

structure RM where
  s : Space
  l : List Load
def RM.cells (m : RM) : List PV := [i m.s.n, i m.s.d0.kind, i m.s.d0.side, i m.s.d0.step, i m.s.d1.kind, i m.s.d1.side, i m.s.d1.step, loads m.l]
def RM.pv (m : RM) : PV := .agg m.cells
theorem rm_free (m : RM) : RefFree m.pv := by
  simp only [RM.pv, f_agg, RM.cells]
  intro x hx
  simp at hx
  rcases hx with rfl | rfl | rfl | rfl | rfl | rfl | rfl | rfl
  all_goals first | exact .v _ | exact loads_free _

def merge : List Load → List Node → List Node
  | [], a => a
  | x :: r, a => merge r (if 0 < x.w.toNat then addN a x.p x.w 0 else a)
def RM.loads (m : RM) : List Load := (merge m.l []).map fun n => ⟨n.p, n.g⟩
theorem merge_len : ∀ (l : List Load) (a : List Node), (merge l a).length ≤ l.length + a.length
  | [], a => by simp [merge]
  | x :: r, a => by
    have := merge_len r (if 0 < x.w.toNat then addN a x.p x.w 0 else a)
    have h2 := addN_len a x.p x.w 0
    rw [merge, List.length_cons]
    split at this
    · rename_i h; rw [if_pos h]; omega
    · rename_i h; rw [if_neg h]; omega
theorem loads_idx {l : List Load} {j : Int} {k : Nat} : pidxSPV (loads l) (i j) k = (elemAt (l.map Load.pv) j).bind fun e => if e.cells.length = k then some (.ept e.cells 0) else none := v_pidxS
theorem loads_one {l : List Load} : (loads l).one = true := rfl
theorem loads_cells {l : List Load} : (loads l).cells = [loads l] := rfl
theorem rloads_spec (m : RM) (hl : m.l.length ≤ 100000) : Pure Tryz.prog 12 [m.pv] (loads m.loads) := by
  refine Pure.run mixed is12 (by simp [n12]) (loads_free _) (by simp only [List.mem_singleton, forall_eq]; exact rm_free m) ?_
  simp [c12, r12, rules, RM.pv, RM.cells, loads_strip, loads_one]
  refine pwp_loop mixed (fun k st => ∃ d r a, m.l = d ++ r ∧ k = r.length ∧ a.length ≤ d.length ∧ merge r a = merge m.l [] ∧
    st.t 1 = .ept [i m.s.n, i m.s.d0.kind, i m.s.d0.side, i m.s.d0.step, i m.s.d1.kind, i m.s.d1.side, i m.s.d1.step, loads m.l] 0 ∧ st.t 3 = .slc a.isEmpty (a.map Node.pv) ∧ st.t 4 = i d.length) m.l.length ⟨[], m.l, [], by simp [rules]⟩ ?_
  rintro k ⟨t, H⟩ ⟨d, r, a, h1, h2, h3, h4, t1, t3, t4⟩
  simp only at t1 t3 t4
  have hlen : m.l.length = d.length + r.length := by rw [h1]; simp
  cases r with
  | nil =>
    have e1 : ¬ (d.length : Int) < m.l.length := by rw [h1]; simp
    simp only [merge] at h4
    simp [rules, t1, t3, t4, e1, loads_strip, loads_len]
    have hal : a.length ≤ 100000 := by have : ([] : List Load).length = 0 := rfl; omega
    have hres : m.loads = a.map fun n => (⟨n.p, n.g⟩ : Load) := by unfold RM.loads; rw [← h4]
    rw [hres]
    clear t1 t4 h1 h2 h3 e1 hlen hres h4
    refine pwp_loop mixed (fun k st => ∃ d r, a = d ++ r ∧ k = r.length ∧ st.t 3 = .slc a.isEmpty (a.map Node.pv) ∧ st.t 5 = .slc true (d.map fun n => Load.pv ⟨n.p, n.g⟩) ∧ st.t 6 = i d.length) a.length ⟨[], a, by simp [rules, t3]⟩ ?_
    clear t3
    rintro k ⟨t, H⟩ ⟨d, r, h1, h2, t3, t5, t6⟩
    simp only at t3 t5 t6
    have hlen : a.length = d.length + r.length := by rw [h1]; simp
    cases r with
    | nil =>
      have e1 : ¬ (d.length : Int) < a.length := by rw [h1]; simp
      have e2 : a = d := by simpa using h1
      subst e2
      simp [rules, t3, t5, t6, s_slcM, loads]
    | cons x r =>
      have e1 : (d.length : Int) < a.length := by rw [h1]; simp; omega
      have e2 : elemAt (a.map Node.pv) d.length = some x.pv := elemAt_mid h1 rfl
      have h9 : (d.length + 1) * 120 ≤ 140737488355328 ∧ d.length + 1 ≤ 9223372036854775807 := by omega
      simp (disch := omega) [rules, t3, t5, t6, e1, e2, h9, s_slcM, w64_id, Node.pv, Node.cells, Load.pv, Load.cells]
      exact ⟨r.length, by simp [h2], d ++ [x], r, by simp [h1], rfl, by simp, by simp⟩
  | cons x r =>
    have e1 : (d.length : Int) < m.l.length := by rw [h1]; simp; omega
    have e2 : elemAt (m.l.map Load.pv) d.length = some x.pv := elemAt_mid h1 rfl
    simp only [merge] at h4
    simp (disch := omega) [rules, t1, t3, t4, e1, e2, loads_strip, loads_len, loads_idx, Load.pv, Load.cells]
    by_cases g : 0 < x.w.toNat
    · rw [if_pos g] at h4
      simp (disch := omega) [rules, g, t1, t3, t4, e2, loads_strip, loads_idx, s_slcM, Load.pv, Load.cells]
      refine pureK_by (add_spec a x.p x.w 0 _ (by simp at hlen; omega)) ?_
      simp (disch := omega) [rules, t1, t4, nodesV_strip, w64_id]
      have := addN_len a x.p x.w 0
      exact ⟨r.length, by simp [h2], d ++ [x], r, by simp [h1], rfl, addN a x.p x.w 0, by rw [List.length_append]; simp only [List.length_singleton]; omega, by simpa using h4, rfl, by simp⟩
    · rw [if_neg g] at h4
      simp (disch := omega) [rules, g, t1, t3, t4, w64_id]
      exact ⟨r.length, by simp [h2], d ++ [x], r, by simp [h1], rfl, a, by simp; omega, by simpa using h4, ⟨rfl, rfl⟩, by simp⟩

/-! Equal lists -/
theorem loadEq {x y : Load} : (decide (x.p.a0 = y.p.a0) && (decide (x.p.a1 = y.p.a1) && (decide (x.p.k0.kind = y.p.k0.kind) && (decide (x.p.k0.len = y.p.k0.len) && (decide (x.p.k0.hi = y.p.k0.hi) && (decide (x.p.k0.lo = y.p.k0.lo) && (decide (x.p.k0.path = y.p.k0.path) && (decide (x.p.k1.kind = y.p.k1.kind) && (decide (x.p.k1.len = y.p.k1.len) && (decide (x.p.k1.hi = y.p.k1.hi) && (decide (x.p.k1.lo = y.p.k1.lo) && (decide (x.p.k1.path = y.p.k1.path) && decide (x.w = y.w))))))))))))) = decide (x = y) := by
  have := @pfxEq x.p y.p
  obtain ⟨p, w⟩ := x
  obtain ⟨q, v⟩ := y
  simp only at this ⊢
  have e : decide ((⟨p, w⟩ : Load) = ⟨q, v⟩) = (decide (p = q) && decide (w = v)) := by simp [Bool.eq_iff_iff]
  rw [e, ← this]
  simp only [Bool.and_assoc]
theorem same_loads_spec (a b : List Load) (o o' : Bool) (hl : a.length ≤ 1000000) (hb : b.length ≤ 1000000) : Pure Tryz.prog 29 [.slc o (a.map Load.pv), .slc o' (b.map Load.pv)] (bo (decide (a = b))) := by
  refine Pure.run mixed is29 (by simp [n29]) (by simp [frees]) (by simp [frees, Load.pv, Load.cells]) ?_
  by_cases h : a.length = b.length
  · simp [c29, r29, rules, s_slcM, h]
    refine pwp_loop mixed (fun k st => ∃ d r r', a = d ++ r ∧ b = d ++ r' ∧ k = r.length ∧ st.t 0 = .slc (o && a.isEmpty) (a.map Load.pv) ∧ st.t 1 = .slc (o' && b.isEmpty) (b.map Load.pv) ∧ st.t 5 = i d.length) a.length ⟨[], a, b, by simp [rules]⟩ ?_
    rintro k ⟨t, H⟩ ⟨d, r, r', h1, h2, h3, t0, t1, t5⟩
    simp only at t0 t1 t5
    have hlr : r.length = r'.length := by rw [h1, h2] at h; simpa using h
    cases r with
    | nil =>
      have e1 : ¬ (d.length : Int) < a.length := by rw [h1]; simp
      have er : r' = [] := by cases r' with | nil => rfl | cons _ _ => simp at hlr
      have : a = b := by rw [h1, h2, er]
      subst this
      simp [rules, t0, t5, e1, s_slcM]
    | cons x r =>
      cases r' with
      | nil => simp at hlr
      | cons y r' =>
        have e1 : (d.length : Int) < a.length := by rw [h1]; simp; omega
        have e2 : elemAt (a.map Load.pv) d.length = some x.pv := elemAt_mid h1 rfl
        have e3 : elemAt (b.map Load.pv) d.length = some y.pv := elemAt_mid h2 rfl
        have hla : a.length = d.length + (r.length + 1) := by rw [h1]; simp
        simp (disch := omega) [rules, t0, t1, t5, e1, e2, e3, s_slcM, Load.pv, Load.cells, loadEq]
        by_cases g : x = y
        · simp (disch := omega) [rules, g, t0, t1, t5, s_slcM, w64_id, Load.pv, Load.cells]
          exact ⟨r.length, by simp [h3], d ++ [x], r, by simp [h1], ⟨r', by rw [h2, g]; simp⟩, rfl, by simp⟩
        · have : ¬ a = b := by
            intro e
            rw [h1, h2] at e
            have := List.append_cancel_left e
            simp at this
            exact g this.1
          simp [rules, g, this]
  · have h' : ¬ (a.length : Int) = b.length := by omega
    have : ¬ a = b := fun e => h (by rw [e])
    simp [c29, r29, rules, s_slcM, h, h', this]
theorem same_pfxs_spec (a b : List Pfx) (o o' : Bool) (hl : a.length ≤ 1000000) (hb : b.length ≤ 1000000) : Pure Tryz.prog 30 [.slc o (a.map Pfx.pv), .slc o' (b.map Pfx.pv)] (bo (decide (a = b))) := by
  refine Pure.run mixed is30 (by simp [n30]) (by simp [frees]) (by simp [frees, Pfx.pv, Pfx.cells]) ?_
  by_cases h : a.length = b.length
  · simp [c30, r30, rules, s_slcM, h]
    refine pwp_loop mixed (fun k st => ∃ d r r', a = d ++ r ∧ b = d ++ r' ∧ k = r.length ∧ st.t 0 = .slc (o && a.isEmpty) (a.map Pfx.pv) ∧ st.t 1 = .slc (o' && b.isEmpty) (b.map Pfx.pv) ∧ st.t 5 = i d.length) a.length ⟨[], a, b, by simp [rules]⟩ ?_
    rintro k ⟨t, H⟩ ⟨d, r, r', h1, h2, h3, t0, t1, t5⟩
    simp only at t0 t1 t5
    have hlr : r.length = r'.length := by rw [h1, h2] at h; simpa using h
    cases r with
    | nil =>
      have e1 : ¬ (d.length : Int) < a.length := by rw [h1]; simp
      have er : r' = [] := by cases r' with | nil => rfl | cons _ _ => simp at hlr
      have : a = b := by rw [h1, h2, er]
      subst this
      simp [rules, t0, t5, e1, s_slcM]
    | cons x r =>
      cases r' with
      | nil => simp at hlr
      | cons y r' =>
        have e1 : (d.length : Int) < a.length := by rw [h1]; simp; omega
        have e2 : elemAt (a.map Pfx.pv) d.length = some x.pv := elemAt_mid h1 rfl
        have e3 : elemAt (b.map Pfx.pv) d.length = some y.pv := elemAt_mid h2 rfl
        have hla : a.length = d.length + (r.length + 1) := by rw [h1]; simp
        simp (disch := omega) [rules, t0, t1, t5, e1, e2, e3, s_slcM, Pfx.pv, Pfx.cells, pfxEq]
        by_cases g : x = y
        · simp (disch := omega) [rules, g, t0, t1, t5, s_slcM, w64_id, Pfx.pv, Pfx.cells]
          exact ⟨r.length, by simp [h3], d ++ [x], r, by simp [h1], ⟨r', by rw [h2, g]; simp⟩, rfl, by simp⟩
        · have : ¬ a = b := by
            intro e
            rw [h1, h2] at e
            have := List.append_cancel_left e
            simp at this
            exact g this.1
          simp [rules, g, this]
  · have h' : ¬ (a.length : Int) = b.length := by omega
    have : ¬ a = b := fun e => h (by rw [e])
    simp [c30, r30, rules, s_slcM, h, h', this]
end Go.Pi.M
namespace Go.Pi.M
open Go Go.Pi Go.Proofs
set_option maxRecDepth 10000

theorem total_spec' (l : List Load) (hl : l.length ≤ 1000000) : Pure Tryz.prog 26 [loads l] (u (total l)) := total_spec l _ hl
/-- What may still be put. -/
@[irreducible] def room (T : BitVec 64) : BitVec 64 := 4611686018427387904#64 - T
theorem room_def (T : BitVec 64) : 4611686018427387904#64 - T = room T := by unfold room; rfl
theorem v_room {b : BitVec 64} : binPV .sub (u 4611686018427387904#64) (u b) = some (u (room b)) := by rw [v_usub, room_def]
def RM.put (m : RM) (p : Pfx) (w : BitVec 64) : RM × Int :=
  if m.s.right p = false ∨ p.a0 ≠ 0 ∨ p.a1 ≠ 0 then (m, 1) else if (room (total m.l)).toNat < w.toNat then (m, 13) else (⟨m.s, m.l ++ [⟨p, w⟩]⟩, 0)
theorem loads_app {l : List Load} : appPV (.slc true []) (loads l) 13 120 = if l.length * 120 ≤ 140737488355328 ∧ l.length ≤ 9223372036854775807 then some (.slc true (l.map Load.pv)) else none := by
  have : ((l.map Load.pv).all fun p => p.cells.length == 13 && storable p.cells) = true := by simp [Load.pv, Load.cells, PV.cells, storable, v_oi, v_ou, v_ox]
  simp [loads, appPV, this]
theorem loads_app2 {l r : List Load} : appPV (.slc true (l.map Load.pv)) (loads r) 13 120 = if (l.length + r.length) * 120 ≤ 140737488355328 ∧ l.length + r.length ≤ 9223372036854775807 then some (.slc true ((l ++ r).map Load.pv)) else none := by
  have h1 : ((r.map Load.pv).all fun p => p.cells.length == 13 && storable p.cells) = true := by simp [Load.pv, Load.cells, PV.cells, storable, v_oi, v_ou, v_ox]
  have h2 : ((l.map Load.pv).all fun p => p.cells.length == 13) = true := by simp [Load.pv, Load.cells, PV.cells]
  simp [loads, appPV, h1, h2]
theorem loads_def {o : Bool} {l : List Load} : (PV.slc o (l.map Load.pv)).strip = .slc (o && l.isEmpty) (l.map Load.pv) := s_slcM
theorem s_snoc {o : Bool} {l : List PV} {x : PV} : (PV.slc o (l ++ [x])).strip = .slc false (l ++ [x]) := by simp [PV.strip]
theorem put9_spec (m : RM) (p : Pfx) (w : BitVec 64) (hl : m.l.length ≤ 100000) (hp : p.ok) : Pure Tryz.prog 9 [m.pv, p.pv, u w] (.tup [(m.put p w).1.pv, i (m.put p w).2]) := by
  refine Pure.run mixed is9 (by simp [n9]) (by simp only [f_tup, List.mem_cons, List.mem_nil_iff, or_false, forall_eq_or_imp, forall_eq]; exact ⟨rm_free _, .v _⟩) (by simp only [List.mem_cons, List.mem_nil_iff, or_false, forall_eq_or_imp, forall_eq]; exact ⟨rm_free _, pfx_free _, .v _⟩) ?_
  simp [c9, r9, rules, RM.pv, RM.cells, loads_strip, loads_one, Pfx.pv, Pfx.cells]
  refine pureK_by (right9_spec m.s p hp) ?_
  cases e : m.s.right p
  · simp [rules, RM.put, e, loads_strip, loads_one, loads_cells]
  by_cases g1 : p.a0 = 0
  · by_cases g2 : p.a1 = 0
    · simp [rules, g1, g2, loads_strip]
      refine pureK_by (total_spec' m.l (by omega)) ?_
      have hput : m.put p w = if (room (total m.l)).toNat < w.toNat then (m, 13) else (⟨m.s, m.l ++ [⟨p, w⟩]⟩, 0) := by
        unfold RM.put
        rw [if_neg (by simp [e, g1, g2])]
      generalize total m.l = T at hput ⊢
      obtain ⟨X, hX⟩ : ∃ X, room T = X := ⟨_, rfl⟩
      rw [hX] at hput
      have hv : binPV .sub (u 4611686018427387904#64) (u T) = some (u X) := by rw [v_room, hX]
      clear hX
      by_cases g3 : X.toNat < w.toNat
      · rw [if_pos g3] at hput
        rw [hput]
        simp [hv, rules, g3, loads_strip, loads_one, loads_cells]
      · rw [if_neg g3] at hput
        rw [hput]
        have h9 : m.l.length * 120 ≤ 140737488355328 ∧ m.l.length ≤ 9223372036854775807 := by omega
        have h8 : (m.l.length + 1) * 120 ≤ 140737488355328 ∧ m.l.length + 1 ≤ 9223372036854775807 := by omega
        simp [hv, rules, g3, loads_strip, loads_one, loads_cells, loads_app, h9, h8, s_snoc, Load.pv, Load.cells]
        simp [loads, Load.pv, Load.cells, g1, g2]
    · simp [rules, RM.put, g1, g2, loads_strip, loads_one, loads_cells]
  · simp [rules, RM.put, g1, loads_strip, loads_one, loads_cells]

theorem spaceEq {s q : Space} : (decide (s.n = q.n) && (decide (s.d0.kind = q.d0.kind) && (decide (s.d0.side = q.d0.side) && (decide (s.d0.step = q.d0.step) && (decide (s.d1.kind = q.d1.kind) && (decide (s.d1.side = q.d1.side) && decide (s.d1.step = q.d1.step))))))) = decide (s = q) := by
  rw [Bool.eq_iff_iff]
  simp only [Bool.and_eq_true, decide_eq_true_eq]
  constructor
  · rintro ⟨h1, h2, h3, h4, h5, h6, h7⟩
    obtain ⟨n, ⟨a, b, c⟩, ⟨d, e, f⟩⟩ := s
    obtain ⟨n', ⟨a', b', c'⟩, ⟨d', e', f'⟩⟩ := q
    simp only at h1 h2 h3 h4 h5 h6 h7
    subst h1 h2 h3 h4 h5 h6 h7
    rfl
  · rintro rfl; exact ⟨rfl, rfl, rfl, rfl, rfl, rfl, rfl⟩
def full : BitVec 64 := 4611686018427387904#64
def RM.join (m o : RM) : RM × Int :=
  if m.s ≠ o.s then (m, 14) else if full.toNat < (total m.l + total o.l).toNat then (m, 13) else (⟨m.s, m.l ++ o.l⟩, 0)
theorem join9_spec (m o : RM) (hl : m.l.length ≤ 100000) (hl' : o.l.length ≤ 100000) : Pure Tryz.prog 11 [m.pv, o.pv] (.tup [(m.join o).1.pv, i (m.join o).2]) := by
  refine Pure.run mixed is11 (by simp [n11]) (by simp only [f_tup, List.mem_cons, List.mem_nil_iff, or_false, forall_eq_or_imp, forall_eq]; exact ⟨rm_free _, .v _⟩) (by simp only [List.mem_cons, List.mem_nil_iff, or_false, forall_eq_or_imp, forall_eq]; exact ⟨rm_free _, rm_free _⟩) ?_
  simp [c11, r11, rules, RM.pv, RM.cells, loads_strip, loads_one, spaceEq]
  by_cases h : m.s = o.s
  · simp [rules, h, loads_strip, loads_one, loads_cells]
    refine pureK_by (total_spec' m.l (by omega)) ?_
    simp [rules, loads_strip]
    refine pureK_by (total_spec' o.l (by omega)) ?_
    have hj : m.join o = if full.toNat < (total m.l + total o.l).toNat then (m, 13) else (⟨m.s, m.l ++ o.l⟩, 0) := by
      unfold RM.join
      rw [if_neg (by simp [h])]
    have hf : ∀ a : BitVec 64, binPV .gtr (u a) (u 4611686018427387904#64) = some (bo (decide (full.toNat < a.toNat))) := fun a => v_ugtr
    generalize full.toNat = F at hj hf
    simp only [r_bin, v_uadd]
    generalize total m.l = T at hj ⊢
    generalize total o.l = T' at hj ⊢
    have ha : binPV .add (u T) (u T') = some (u (T + T')) := v_uadd
    generalize hX : T + T' = X at hj ha
    clear hX
    by_cases g : F < X.toNat
    · rw [if_pos g] at hj
      rw [hj]
      simp [ha, hf, rules, g, h, loads_strip, loads_one, loads_cells]
    · rw [if_neg g] at hj
      rw [hj]
      have h9 : m.l.length * 120 ≤ 140737488355328 ∧ m.l.length ≤ 9223372036854775807 := by omega
      have h8 : (m.l.length + o.l.length) * 120 ≤ 140737488355328 ∧ m.l.length + o.l.length ≤ 9223372036854775807 := by omega
      simp [ha, hf, rules, g, h, loads_strip, loads_one, loads_cells, loads_app, loads_app2, h9, h8, s_slcM, -List.map_append]
      rfl
  · simp [rules, h, RM.join, loads_strip, loads_one, loads_cells]
end Go.Pi.M
namespace Go.Pi.M
open Go Go.Pi Go.Proofs
set_option maxRecDepth 10000

def RM.weight (m : RM) (p : Pfx) : BitVec 64 := sumOver m.s p m.l 0
theorem rweight_spec (m : RM) (p : Pfx) (hl : m.l.length ≤ 100000) (hp : p.ok) (hx : ∀ x ∈ m.l, x.p.ok) : Pure Tryz.prog 28 [m.pv, p.pv] (u (m.weight p)) := by
  refine Pure.run mixed is28 (by simp [n28]) (.v _) (by simp only [List.mem_cons, List.mem_nil_iff, or_false, forall_eq_or_imp, forall_eq]; exact ⟨rm_free _, pfx_free _⟩) ?_
  simp [c28, r28, rules, RM.pv, RM.cells, loads_strip, loads_one, Pfx.pv, Pfx.cells]
  refine pureK_by (weight23_spec m.s m.l p m.l.isEmpty (by omega) hp hx) ?_
  simp [rules, RM.weight]

def putP : List Pfx → Pfx → List Pfx
  | [], x => [x]
  | y :: r, x => if y.cmp x < 0 then y :: putP r x else if y = x then y :: r else x :: y :: r
theorem putP_mid {d r : List Pfx} {x : Pfx} (hd : ∀ y ∈ d, y.cmp x < 0) : putP (d ++ r) x = d ++ putP r x := by
  induction d with
  | nil => rfl
  | cons y d ih =>
    simp only [List.cons_append, putP]
    rw [if_pos (hd y (by simp)), ih fun z hz => hd z (by simp [hz])]
theorem putP_len : ∀ (l : List Pfx) (x : Pfx), (putP l x).length ≤ l.length + 1
  | [], _ => by simp [putP]
  | y :: r, x => by
    have := putP_len r x
    rw [putP]
    split
    · simp; omega
    · split <;> simp
theorem pcmp_refl (x : Pfx) : x.cmp x = 0 := by unfold Pfx.cmp; rw [if_pos rfl]
theorem put29_spec (l : List Pfx) (x : Pfx) (o : Bool) (hl : l.length ≤ 1000000) : Pure Tryz.prog 68 [.slc o (l.map Pfx.pv), x.pv] (pfxs (putP l x)) := by
  refine Pure.run mixed is68 (by simp [n68]) (pfxs_free _) (by simp [frees, Pfx.pv, Pfx.cells]) ?_
  simp [c68, r68, rules, s_slcM, Pfx.pv, Pfx.cells]
  refine pwp_loop mixed (fun k st => ∃ d r, l = d ++ r ∧ k = r.length ∧ (∀ y ∈ d, y.cmp x < 0) ∧ st.t 0 = .slc (o && l.isEmpty) (l.map Pfx.pv) ∧
    st.t 3 = .ept [i x.a0, i x.a1, i x.k0.kind, i x.k0.len, u x.k0.hi, u x.k0.lo, tx x.k0.path, i x.k1.kind, i x.k1.len, u x.k1.hi, u x.k1.lo, tx x.k1.path] 0 ∧ st.t 5 = .slc true (d.map Pfx.pv) ∧ st.t 6 = i d.length) l.length ⟨[], l, by simp [rules]⟩ ?_
  rintro k ⟨t, H⟩ ⟨d, r, h1, h2, h3, t0, t3, t5, t6⟩
  simp only at t0 t3 t5 t6
  have hlen : l.length = d.length + r.length := by rw [h1]; simp
  have hs := slice_rest (f := Pfx.pv) (k := 12) (fun x => rfl) h1 (o := (o && l.isEmpty)) (j := d.length) rfl
  have h9 : (d.length + 1) * 112 ≤ 140737488355328 ∧ d.length + 1 ≤ 9223372036854775807 := by omega
  cases r with
  | nil =>
    have e1 : ¬ (d.length : Int) < l.length := by rw [h1]; simp
    have el : putP l x = d ++ [x] := by rw [h1, putP_mid h3]; rfl
    simp (disch := omega) [rules, t0, t3, t5, t6, e1, s_slcM, h9, hs, Pfx.pv, Pfx.cells]
    rw [el]
    cases d <;> simp [pfxs, PV.strip, Pfx.pv, Pfx.cells]
  | cons y r =>
    have e1 : (d.length : Int) < l.length := by rw [h1]; simp; omega
    have e2 : elemAt (l.map Pfx.pv) d.length = some y.pv := elemAt_mid h1 rfl
    simp (disch := omega) [rules, t0, t3, t5, t6, e1, e2, s_slcM, Pfx.pv, Pfx.cells]
    refine pureK_by (pcmp9_spec y x) ?_
    by_cases g : y.cmp x < 0
    · simp (disch := omega) [rules, t0, t3, t5, t6, e2, g, s_slcM, h9, w64_id, Pfx.pv, Pfx.cells]
      refine ⟨r.length, by simp [h2], d ++ [y], r, by simp [h1], rfl, ?_, by simp [Pfx.pv, Pfx.cells], by simp⟩
      intro z hz
      rcases List.mem_append.1 hz with hz | hz
      · exact h3 z hz
      · rw [List.mem_singleton.1 hz]; exact g
    · by_cases g2 : y = x
      · subst g2
        have el : putP l y = l := by rw [h1, putP_mid h3]; simp only [putP, if_neg g, if_true]
        simp (disch := omega) [rules, t0, t3, t5, t6, e1, e2, g, s_slcM, Pfx.pv, Pfx.cells, pfxEq]
        rw [el]
        have : l ≠ [] := by rw [h1]; simp
        simp [pfxs, this, Pfx.pv, Pfx.cells]
      · have el : putP l x = d ++ x :: y :: r := by rw [h1, putP_mid h3]; simp only [putP, if_neg g, if_neg g2]
        have h8' : (d.length + 1 + (r.length + 1)) * 112 ≤ 140737488355328 ∧ d.length + 1 + (r.length + 1) ≤ 9223372036854775807 := by simp at hlen; omega
        simp (disch := omega) [rules, t0, t3, t5, t6, e1, e2, g, g2, s_slcM, h9, h8', hs, Pfx.pv, Pfx.cells, pfxEq]
        rw [el]
        cases d <;> simp [pfxs, PV.strip, Pfx.pv, Pfx.cells]
end Go.Pi.M
namespace Go.Pi.M
open Go Go.Pi Go.Proofs
set_option maxRecDepth 10000

def rowRef (b h : Int) : Int → Nat → List (Int × Int)
  | _, 0 => []
  | a, n + 1 => (if 0 ≤ h - a ∧ h - a ≤ b then [(a, h - a)] else []) ++ rowRef b h (a + 1) n
theorem rowRef_eq (b h : Int) : ∀ (n : Nat) (a : Int), 0 ≤ a → rowRef b h a n = rowFrom h (max a (h - b)) (min (a + n - 1) h - max a (h - b) + 1).toNat
  | 0, a, ha => by
    have : (min (a + (0 : Nat) - 1) h - max a (h - b) + 1).toNat = 0 := by omega
    rw [this]; rfl
  | n + 1, a, ha => by
    rw [rowRef, rowRef_eq b h n (a + 1) (by omega)]
    by_cases g : 0 ≤ h - a ∧ h - a ≤ b
    · rw [if_pos g]
      have e1 : max a (h - b) = a := by omega
      have e2 : max (a + 1) (h - b) = a + 1 := by omega
      have e3 : (min (a + (n + 1 : Nat) - 1) h - a + 1).toNat = (min (a + 1 + n - 1) h - (a + 1) + 1).toNat + 1 := by omega
      rw [e1, e2, e3, rowFrom_succ]; rfl
    · rw [if_neg g]
      by_cases g2 : h < a
      · have e1 : (min (a + (n + 1 : Nat) - 1) h - max a (h - b) + 1).toNat = 0 := by omega
        have e2 : (min (a + 1 + n - 1) h - max (a + 1) (h - b) + 1).toNat = 0 := by omega
        rw [e1, e2]; rfl
      · have e1 : max a (h - b) = max (a + 1) (h - b) := by omega
        have e2 : min (a + (n + 1 : Nat) - 1) h = min (a + 1 + n - 1) h := by omega
        rw [e1, e2]; rfl
theorem row_ref {s : Space} (hs : s.sound = true) (h : Int) : s.row h = rowRef s.d1.depth h 0 (s.d0.depth.toNat + 1) := by
  have h0 := depth_bound s.d0
  have h1 := depth_bound s.d1
  rw [rowRef_eq _ _ _ _ (by omega)]
  unfold Space.row Space.top
  rw [if_pos hs]
  have : min (0 + ((s.d0.depth.toNat + 1 : Nat) : Int) - 1) h = min h s.d0.depth := by omega
  simp only [this]
def nodesP (l : List (Int × Int)) : PV := .slc l.isEmpty (l.map fun ab => .agg [i ab.1, i ab.2])
theorem nodesP_strip (l : List (Int × Int)) : (nodesP l).strip = nodesP l := by cases l <;> simp [nodesP, PV.strip]
theorem nodesP_len (l : List (Int × Int)) : lenPV (nodesP l) = some (i l.length) := by simp [nodesP, v_len]
theorem nodesP_free (l : List (Int × Int)) : RefFree (nodesP l) := by
  refine .slc fun x hx => ?_
  obtain ⟨ab, _, rfl⟩ := List.mem_map.1 hx
  simp [frees]
def Space.nodes10 (s : Space) : List (Int × Int) := if s.sound = true then s.nodes else []
theorem nodes10_spec (s : Space) : Pure Tryz.prog 66 [s.pv] (nodesP s.nodes10) := by
  refine Pure.run mixed is66 (by simp [n66]) (nodesP_free _) (by simp [frees, Space.pv, Space.cells]) ?_
  simp [c66, r66, rules, Space.pv, Space.cells]
  refine pureK_by (sound9_spec s) ?_
  cases hs : s.sound
  · simp [rules, Space.nodes10, hs, nodesP]
  simp [rules]
  refine pureK_by (depth8_spec s.d0) ?_
  simp [rules]
  refine pureK_by (depth8_spec s.d1) ?_
  have htop : s.top.a0 = s.d0.depth ∧ s.top.a1 = s.d1.depth := by unfold Space.top; rw [if_pos hs]; exact ⟨rfl, rfl⟩
  have h0 := depth_bound s.d0
  have h1 := depth_bound s.d1
  have hnl := nodes_len s
  have hn0 : s.nodes = s.rows 0 (s.d0.depth + s.d1.depth + 1).toNat := by unfold Space.nodes; rw [htop.1, htop.2]
  have hres : s.nodes10 = s.nodes := if_pos hs
  have hrow := row_ref hs
  rw [hres]
  generalize s.d0.depth = A at *
  generalize s.d1.depth = B at *
  simp [rules]
  refine pwp_loop mixed (fun m st => ∃ (h : Nat) (pre : List (Int × Int)), (h : Int) + m = A + B + 1 ∧ s.nodes = pre ++ s.rows h m ∧ st.t 3 = .slc true (pre.map fun ab => .agg [i ab.1, i ab.2]) ∧ st.t 4 = i A ∧ st.t 5 = i B ∧ st.t 6 = i h) (A + B + 1).toNat
    ⟨0, [], by omega, by simp [hn0], by simp [rules]⟩ ?_
  rintro m ⟨t, H⟩ ⟨h, pre, hm, hpre, t3, t4, t5, t6⟩
  simp only at t3 t4 t5 t6
  cases m with
  | zero =>
    have e1 : ¬ (h : Int) ≤ A + B := by omega
    have e2 : s.nodes = pre := by simpa [Space.rows] using hpre
    simp (disch := omega) [rules, t3, t4, t5, t6, e1, w64_id, s_slcM, e2, nodesP]
  | succ m =>
    have e1 : (h : Int) ≤ A + B := by omega
    simp (disch := omega) [rules, t3, t4, t5, t6, e1, w64_id]
    rw [Space.rows, hrow] at hpre
    refine pwp_loop mixed (fun n st => ∃ (a : Nat) (pre : List (Int × Int)), (a : Int) + n = A + 1 ∧ s.nodes = pre ++ (rowRef B h a n ++ s.rows (h + 1) m) ∧ st.t 3 = .slc true (pre.map fun ab => .agg [i ab.1, i ab.2]) ∧ st.t 4 = i A ∧ st.t 5 = i B ∧ st.t 6 = i h ∧ st.t 7 = i a) (A.toNat + 1)
      ⟨0, pre, by omega, by simpa using hpre, by simp [rules, t3, t4, t5, t6]⟩ ?_
    clear hpre t3 t4 t5 t6 pre
    rintro n ⟨t, H⟩ ⟨a, pre, ha, hpre, t3, t4, t5, t6, t7⟩
    simp only at t3 t4 t5 t6 t7
    cases n with
    | zero =>
      have e2 : ¬ (a : Int) ≤ A := by omega
      simp (disch := omega) [rules, t3, t4, t5, t6, t7, e2, w64_id]
      refine ⟨m, by omega, h + 1, by omega, pre, ?_, rfl, by simp⟩
      rw [hpre]; simp [rowRef]
    | succ n =>
      have e2 : (a : Int) ≤ A := by omega
      have hpl : pre.length ≤ 40000 := by have := congrArg List.length hpre; simp at this; omega
      have h9 : (pre.length + 1) * 16 ≤ 140737488355328 ∧ pre.length + 1 ≤ 9223372036854775807 := by omega
      rw [rowRef] at hpre
      by_cases g1 : 0 ≤ (h : Int) - a
      · have g1' : a ≤ h := by omega
        by_cases g2 : (h : Int) - a ≤ B
        · have g2' : (h : Int) ≤ B + a := by omega
          rw [if_pos ⟨g1, g2⟩] at hpre
          simp (disch := omega) [rules, t3, t4, t5, t6, t7, e2, g1, g1', g2, g2', h9, w64_id, s_slcM]
          exact ⟨n, by omega, a + 1, by omega, pre ++ [((a : Int), (h : Int) - a)], by rw [hpre]; simp, by simp, by simp⟩
        · have g2' : ¬ (h : Int) ≤ B + a := by omega
          rw [if_neg (fun h => g2 h.2)] at hpre
          simp (disch := omega) [rules, t3, t4, t5, t6, t7, e2, g1, g1', g2, g2', w64_id, s_slcM]
          exact ⟨n, by omega, a + 1, by omega, pre, by rw [hpre]; simp, rfl, by simp⟩
      · have g1' : ¬ a ≤ h := by omega
        rw [if_neg (fun h => g1 h.1)] at hpre
        simp (disch := omega) [rules, t3, t4, t5, t6, t7, e2, g1, g1', w64_id, s_slcM]
        exact ⟨n, by omega, a + 1, by omega, pre, by rw [hpre]; simp, rfl, by simp⟩
end Go.Pi.M
namespace Go.Pi.M
open Go Go.Pi Go.Proofs
set_option maxRecDepth 10000

def atNode (s : Space) (a b : Int) : List Load → List Pfx → List Pfx
  | [], acc => acc
  | x :: r, acc => atNode s a b r (if 0 < x.w.toNat ∧ ((s.up x.p a b).a0 = a ∧ (s.up x.p a b).a1 = b) ∧ s.right (s.up x.p a b) = true then putP acc (s.up x.p a b) else acc)
def overNodes (s : Space) (l : List Load) : List (Int × Int) → List Pfx
  | [] => []
  | (a, b) :: r => atNode s a b l [] ++ overNodes s l r
def RM.over (m : RM) : List Pfx := overNodes m.s m.l m.s.nodes10
theorem atNode_len (s : Space) (a b : Int) : ∀ (l : List Load) (acc : List Pfx), (atNode s a b l acc).length ≤ l.length + acc.length
  | [], acc => by simp [atNode]
  | x :: r, acc => by
    have := atNode_len s a b r (if 0 < x.w.toNat ∧ ((s.up x.p a b).a0 = a ∧ (s.up x.p a b).a1 = b) ∧ s.right (s.up x.p a b) = true then putP acc (s.up x.p a b) else acc)
    have h2 := putP_len acc (s.up x.p a b)
    rw [atNode, List.length_cons]
    split at this
    · rename_i h; rw [if_pos h]; omega
    · rename_i h; rw [if_neg h]; omega
theorem nodesP_idx {l : List (Int × Int)} {j : Int} {k : Nat} : pidxSPV (nodesP l) (i j) k = (elemAt (l.map fun ab => .agg [i ab.1, i ab.2]) j).bind fun e => if e.cells.length = k then some (.ept e.cells 0) else none := v_pidxS
theorem pfxs_app {l : List Pfx} {o : Bool} {r : List Pfx} : appPV (.slc true (l.map Pfx.pv)) (.slc o (r.map Pfx.pv)) 12 112 = if (l.length + r.length) * 112 ≤ 140737488355328 ∧ l.length + r.length ≤ 9223372036854775807 then some (.slc true ((l ++ r).map Pfx.pv)) else none := by
  have h1 : ((r.map Pfx.pv).all fun p => p.cells.length == 12 && storable p.cells) = true := by simp [Pfx.pv, Pfx.cells, PV.cells, storable, v_oi, v_ou, v_ox]
  have h2 : ((l.map Pfx.pv).all fun p => p.cells.length == 12) = true := by simp [Pfx.pv, Pfx.cells, PV.cells]
  simp [appPV, h1, h2]
theorem nodes10_len (s : Space) : s.nodes10.length ≤ 40000 := by
  unfold Space.nodes10
  split
  · exact nodes_len s
  · simp
theorem over29_spec (s : Space) (l : List Load) (o : Bool) (hl : l.length ≤ 100000) (hx : ∀ x ∈ l, x.p.ok) : Pure Tryz.prog 47 [s.pv, .slc o (l.map Load.pv)] (pfxs (overNodes s l s.nodes10)) := by
  refine Pure.run mixed is47 (by simp [n47]) (pfxs_free _) (by simp [frees, Space.pv, Space.cells, Load.pv, Load.cells]) ?_
  simp [c47, r47, rules, s_slcM, Space.pv, Space.cells]
  refine pureK_by (nodes10_spec s) ?_
  have hn := nodes10_len s
  generalize s.nodes10 = N at hn ⊢
  simp [rules, nodesP_strip]
  refine pwp_loop mixed (fun k st => ∃ d r out, N = d ++ r ∧ k = r.length ∧ out ++ overNodes s l r = overNodes s l N ∧ out.length ≤ d.length * 100000 ∧ st.t 1 = .slc (o && l.isEmpty) (l.map Load.pv) ∧
    st.t 2 = .ept [i s.n, i s.d0.kind, i s.d0.side, i s.d0.step, i s.d1.kind, i s.d1.side, i s.d1.step] 0 ∧ st.t 5 = .slc true (out.map Pfx.pv) ∧ st.t 6 = nodesP N ∧ st.t 7 = i d.length) N.length ⟨[], N, [], by simp [rules]⟩ ?_
  rintro k ⟨t, H⟩ ⟨d, r, out, h1, h2, h3, h4, t1, t2, t5, t6, t7⟩
  simp only at t1 t2 t5 t6 t7
  have hlen : N.length = d.length + r.length := by rw [h1]; simp
  cases r with
  | nil =>
    have e1 : ¬ (d.length : Int) < N.length := by rw [h1]; simp
    simp only [overNodes, List.append_nil] at h3
    simp [rules, t1, t2, t5, t6, t7, e1, nodesP_strip, nodesP_len, s_slcM, h3, pfxs]
  | cons ab r =>
    obtain ⟨a, b⟩ := ab
    have e1 : (d.length : Int) < N.length := by rw [h1]; simp; omega
    have e2 : elemAt (N.map fun ab => PV.agg [i ab.1, i ab.2]) d.length = some (.agg [i a, i b]) := elemAt_mid (f := fun ab : Int × Int => PV.agg [i ab.1, i ab.2]) h1 rfl
    simp [rules, t1, t2, t5, t6, t7, e1, nodesP_strip, nodesP_len]
    simp only [overNodes] at h3
    refine pwp_loop mixed (fun k' st => ∃ d' r' acc, l = d' ++ r' ∧ k' = r'.length ∧ atNode s a b r' acc = atNode s a b l [] ∧ acc.length ≤ d'.length ∧ st.t 1 = .slc (o && l.isEmpty) (l.map Load.pv) ∧
      st.t 2 = .ept [i s.n, i s.d0.kind, i s.d0.side, i s.d0.step, i s.d1.kind, i s.d1.side, i s.d1.step] 0 ∧ st.t 5 = .slc true (out.map Pfx.pv) ∧ st.t 6 = nodesP N ∧ st.t 7 = i d.length ∧ st.t 8 = pfxs acc ∧ st.t 9 = i d'.length) l.length ⟨[], l, [], by simp [rules, t1, t2, t5, t6, t7, pfxs]⟩ ?_
    clear t1 t2 t5 t6 t7
    rintro k' ⟨t, H⟩ ⟨d', r', acc, g1, g2, g3, g4, t1, t2, t5, t6, t7, t8, t9⟩
    simp only at t1 t2 t5 t6 t7 t8 t9
    have hlen' : l.length = d'.length + r'.length := by rw [g1]; simp
    cases r' with
    | nil =>
      have e3 : ¬ (d'.length : Int) < l.length := by rw [g1]; simp
      simp only [atNode] at g3
      have h9 : (out.length + acc.length) * 112 ≤ 140737488355328 ∧ out.length + acc.length ≤ 9223372036854775807 := by
        simp at hlen; omega
      have hp : (PV.slc true (out.map Pfx.pv)).strip = .slc out.isEmpty (out.map Pfx.pv) := by simp [PV.strip]
      have hap : appPV (.slc true (out.map Pfx.pv)) (pfxs acc) 12 112 = some (.slc true ((out ++ acc).map Pfx.pv)) := by
        unfold pfxs; rw [pfxs_app, if_pos h9]
      simp (disch := omega) [rules, t1, t2, t5, t6, t7, t8, t9, e3, pfxs_strip, hap, s_slcM, w64_id, -List.map_append]
      refine ⟨r.length, by simp [h2], d ++ [(a, b)], r, by simp [h1], rfl, out ++ acc, ?_, ?_, rfl, by simp⟩
      · rw [List.append_assoc, g3]; exact h3
      · simp at hlen' ⊢; omega
    | cons x r' =>
      have e3 : (d'.length : Int) < l.length := by rw [g1]; simp; omega
      have e4 : elemAt (l.map Load.pv) d'.length = some x.pv := elemAt_mid g1 rfl
      simp (disch := omega) [rules, t1, t2, t5, t6, t7, t8, t9, e2, e3, e4, nodesP_strip, nodesP_idx, s_slcM, Load.pv, Load.cells]
      refine pureK_by (up9_spec s x.p a b (hx x (by rw [g1]; simp))) ?_
      simp only [atNode] at g3
      have hq := up_path s x.p a b
      generalize s.up x.p a b = q at g3 hq ⊢
      by_cases c1 : 0 < x.w.toNat
      · by_cases c2 : q.a0 = a
        · by_cases c3 : q.a1 = b
          · subst c2; subst c3
            simp (disch := omega) [rules, t1, t2, t5, t6, t7, t8, t9, e2, e4, c1, nodesP_strip, nodesP_idx, s_slcM, Load.pv, Load.cells, Pfx.pv, Pfx.cells]
            refine pureK_by (right9_spec s q hq) ?_
            cases c4 : s.right q
            · rw [if_neg (by simp [c4])] at g3
              simp (disch := omega) [rules, t1, t2, t5, t6, t7, t8, t9, w64_id]
              exact ⟨r'.length, by simp [g2], d' ++ [x], r', by simp [g1], rfl, acc, g3, by simp; omega, rfl, by simp⟩
            · rw [if_pos ⟨c1, ⟨rfl, rfl⟩, c4⟩] at g3
              simp (disch := omega) [rules, t1, t2, t5, t6, t7, t8, t9, pfxs_strip]
              have hpl := putP_len acc q
              refine pureK_by (put29_spec acc q acc.isEmpty (by omega)) ?_
              simp (disch := omega) [rules, t1, t2, t5, t6, t7, t9, pfxs_strip, w64_id]
              exact ⟨r'.length, by simp [g2], d' ++ [x], r', by simp [g1], rfl, putP acc q, g3, by rw [List.length_append, List.length_singleton]; omega, rfl, by simp⟩
          · rw [if_neg (fun h => c3 h.2.1.2)] at g3
            simp (disch := omega) [rules, t1, t2, t5, t6, t7, t8, t9, e2, e4, c1, c2, c3, nodesP_strip, nodesP_idx, s_slcM, w64_id, Load.pv, Load.cells, Pfx.pv, Pfx.cells]
            exact ⟨r'.length, by simp [g2], d' ++ [x], r', by simp [g1], rfl, acc, g3, by simp; omega, rfl, by simp⟩
        · rw [if_neg (fun h => c2 h.2.1.1)] at g3
          simp (disch := omega) [rules, t1, t2, t5, t6, t7, t8, t9, e2, e4, c1, c2, nodesP_strip, nodesP_idx, s_slcM, w64_id, Load.pv, Load.cells, Pfx.pv, Pfx.cells]
          exact ⟨r'.length, by simp [g2], d' ++ [x], r', by simp [g1], rfl, acc, g3, by simp; omega, rfl, by simp⟩
      · rw [if_neg (fun h => c1 h.1)] at g3
        simp (disch := omega) [rules, t1, t2, t5, t6, t7, t8, t9, e2, e4, c1, nodesP_strip, nodesP_idx, s_slcM, w64_id, Load.pv, Load.cells, Pfx.pv, Pfx.cells]
        exact ⟨r'.length, by simp [g2], d' ++ [x], r', by simp [g1], rfl, acc, g3, by simp; omega, rfl, by simp⟩
theorem rover_spec (m : RM) (hl : m.l.length ≤ 100000) (hx : ∀ x ∈ m.l, x.p.ok) : Pure Tryz.prog 31 [m.pv] (pfxs m.over) := by
  refine Pure.run mixed is31 (by simp [n31]) (pfxs_free _) (by simp only [List.mem_singleton, forall_eq]; exact rm_free m) ?_
  simp [c31, r31, rules, RM.pv, RM.cells, loads_strip, loads_one]
  refine pureK_by (over29_spec m.s m.l m.l.isEmpty hl hx) ?_
  simp [rules, RM.over, pfxs_strip]
end Go.Pi.M
