import Derived.Test.YtcmkgbboldchbaaGreatDoorA2
import Derived.RangeFuncRecord
import Derived.Lib.ConvBytes
import Derived.Laws.Strings
import Derived.RangeFuncLeaves
import Derived.OrdersIn
import Derived.Sort.LoopGhostIn
set_option linter.unusedSimpArgs false
set_option linter.unusedVariables false
/- Append. -/
namespace Go.Pi
open Go.RowKit

section
variable {P : Program} {E : Ent} {s s' : St} {bl : List Nat} {π : Nat → Nat → Prop} {om : Loc → Option Nat} {a : Act} {w : World}

theorem run_append_none {t e ty : TypeId} {i : TypeInfo} (ht : P.underlying t = some (.slice e)) (hi : P.info? e = some i) (base : Option Addr) (sLen sCap : Nat) (q : Option Addr) (c : Nat) (hle : sLen ≤ sCap) (w : World) :
    (Builtin.append_ #[t, t] ty #[.slice base sLen sCap, .slice q 0 c]).run P w = .ok (.slice base sLen sCap) w := by
  have hf : (Builtin.firstCells i.size 0 (.slice q 0 c)).run P w = .ok #[] w := by
    cases q with
    | none => exact run_firstCells_none w _ _ _ _
    | some b => exact run_firstCells_some w i.size 0 b 0 c [] (by simp) (fun j v h => by simp at h)
  cases base with
  | none => simp [Builtin.append_, run_underlying ht, sizeOf, typeInfo, hi, Builtin.lenOf, hle, hf]
  | some b => simp [Builtin.append_, run_underlying ht, sizeOf, typeInfo, hi, Builtin.lenOf, hle, hf, storeCells]

theorem run_append_room {t e ty : TypeId} {i : TypeInfo} (ht : P.underlying t = some (.slice e)) (hi : P.info? e = some i) (b off sLen sCap : Nat) (q : Addr) (n c : Nat) (news : List Value) (hl : news.length = n * i.size) (hnews : ∀ j v, news[j]? = some v → w.cell? (q.add j) = some v)
    (hle : sLen + n ≤ sCap) {cs : Array Value} {tb : TypeId} (hb : w.heap[b]? = some (.cells cs tb (0, 0))) (hsz : off + sLen * i.size + news.length ≤ cs.size) (h1 : ∀ v ∈ news, v.oneCell' = true) :
    (Builtin.append_ #[t, t] ty #[.slice (some ⟨b, off, none⟩) sLen sCap, .slice (some q) n c]).run P w =
      .ok (.slice (some ⟨b, off, none⟩) (sLen + n) sCap) (w.setRow b (cs.toList.take (off + sLen * i.size) ++ news ++ cs.toList.drop (off + sLen * i.size + news.length)).toArray) := by
  have hf := run_firstCells_some (P := P) w i.size n q n c news hl hnews
  have hst := run_storeCells_at (P := P) b (off + sLen * i.size) tb news 0 cs w hb (by omega) h1
  simp only [Nat.add_zero] at hst
  simp [Builtin.append_, run_underlying ht, sizeOf, typeInfo, hi, Builtin.lenOf, hle, hf, addr_add, hst]

theorem grownCap_ge (w : World) (need old : Nat) (e : TypeId) : need ≤ grownCap w need old e := by
  simp [grownCap, Question.cut]

/-- Both forms of a slice that has to be moved. -/
theorem run_append_move {t e ty : TypeId} {i : TypeInfo} {z : Value} (ht : P.underlying t = some (.slice e)) (hi : P.info? e = some i) (hz : i.zero = some z) (base : Option Addr) (sLen sCap : Nat) (hnil : base = none → sLen = 0 ∧ sCap = 0)
    (olds : List Value) (hlo : olds.length = sLen * i.size) (holds : ∀ b, base = some b → ∀ j v, olds[j]? = some v → w.cell? (b.add j) = some v) (q : Addr) (n c : Nat) (news : List Value) (hl : news.length = n * i.size) (hnews : ∀ j v, news[j]? = some v → w.cell? (q.add j) = some v)
    (hg : sCap < sLen + n) (h63 : sLen + n ≤ 9223372036854775807) (hbytes : (sLen + n) * i.bytes ≤ 140737488355328) :
    (Builtin.append_ #[t, t] ty #[.slice base sLen sCap, .slice (some q) n c]).run P w =
      .ok (.slice (some ⟨w.heap.size, 0, none⟩) (sLen + n) (grownCap w (sLen + n) sCap e))
        (w.drew.alloc (.cells (olds.toArray ++ news.toArray ++ Builtin.zeroCells z.cells (grownCap w (sLen + n) sCap e - (sLen + n))) e)) := by
  cases base with
  | none =>
    obtain ⟨rfl, rfl⟩ := hnil rfl
    have ho : olds = [] := by simpa using hlo
    subst ho
    have := run_append_nil (P := P) w t ty e i z ht hi hz q n c news hl hnews (by omega) (by omega) (by simp at hbytes; omega)
    rw [Nat.zero_add]
    rw [this]
    simp
  | some b =>
    exact run_append_grow (P := P) w t ty e i z ht hi hz b sLen sCap olds hlo (holds b rfl) q n c news hl hnews hg (by omega) (growslice_fits hg hbytes)

theorem zeroCells_size (z : Array Value) (n : Nat) : (Builtin.zeroCells z n).size = n * z.size := by simp [Builtin.zeroCells]

theorem idx_append {vx vy : List Value} {k n : Nat} (hx : vx.length = n * k) (j c : Nat) (hj : n ≤ j) : (vx ++ vy)[j * k + c]? = vy[(j - n) * k + c]? := by
  have : n * k ≤ j * k := Nat.mul_le_mul_right _ hj
  rw [List.getElem?_append_right (by omega), hx, Nat.sub_mul]
  congr 1
  omega

theorem rel_append {xs ys : List PV} {vx vy : List Value} {k : Nat} (hlx : vx.length = xs.length * k) (hkx : ∀ x ∈ xs, x.cells.length = k)
    (hx : ∀ (j c : Nat) (x z : PV) (u : Value), xs[j]? = some x → x.cells[c]? = some z → vx[j * k + c]? = some u → VRel w bl π z u)
    (hy : ∀ (j c : Nat) (x z : PV) (u : Value), ys[j]? = some x → x.cells[c]? = some z → vy[j * k + c]? = some u → VRel w bl π z u) :
    ∀ (j c : Nat) (x z : PV) (u : Value), (xs ++ ys)[j]? = some x → x.cells[c]? = some z → (vx ++ vy)[j * k + c]? = some u → VRel w bl π z u := by
  intro j c x z u h1 h2 h3
  by_cases hj : j < xs.length
  · rw [List.getElem?_append_left hj] at h1
    have hc : c < k := by rw [← hkx x (List.mem_of_getElem? h1)]; exact (List.getElem?_eq_some_iff.1 h2).1
    have : (j + 1) * k ≤ xs.length * k := Nat.mul_le_mul_right _ hj
    rw [Nat.add_one_mul] at this
    rw [List.getElem?_append_left (by omega)] at h3
    exact hx j c x z u h1 h2 h3
  · rw [List.getElem?_append_right (by omega)] at h1
    rw [idx_append hlx j c (by omega)] at h3
    exact hy _ c x z u h1 h2 h3

theorem done_append (h : Rel E s bl π om a w) {o : Oper} {c : Call} {t e : TypeId} {x : Nat} {y : Operand} {y' : Arg} {j : TypeInfo} {z : Value} (ho : o.op = .call c) (hcal : c.callee = .builtin .append) (hts : c.argTypes.toList = [t, t]) (hargs : c.args.toList = [.tmp x, y])
    (hu : P.underlying t = some (.slice e)) (hj : P.info? e = some j) (hz : j.zero = some z) (hzs : z.cells.size = j.size) (hsz : j.size ≠ 0) (hy : argOf y = some y') (hd : ∀ t, o.dst = some t → t < E.n)
    (hp : (PO.append x y' j.size j.bytes).step o.dst s = some s') : Done P E s' a w o := by
  have hts' : c.argTypes = #[t, t] := Array.ext' (by simpa using hts)
  have hargs' : c.args = #[.tmp x, y] := Array.ext' (by simpa using hargs)
  have hrun : ∀ v w', (Builtin.append_ #[t, t] o.type #[a.eval (.tmp x), a.eval y]).run P w = .ok v w' → (execOp a.eval o).run P w = .ok (.value v) w' := by
    intro v w' hr
    simp [execOp, ho, resolve, hcal, hargs', hts', invoke, builtin, hr]
  simp only [PO.step] at hp
  split at hp
  · rename_i xs ow ys hx hyv
    split at hp
    · rename_i hcond
      obtain ⟨hb1, hb2, hky, hkx, hdx⟩ := hcond
      cases hp
      have hLx := h.tm x
      rw [hx] at hLx
      have hY := h.arg hy
      rw [hyv] at hY
      obtain ⟨q, capy, hyval, hycap⟩ := hY.slcLen
      obtain ⟨base, sCap, hxval, hxcap⟩ := hLx.1.slcLen
      rw [hyval] at hY
      rw [hxval] at hLx
      have hkx' : ∀ p ∈ xs, p.cells.length = j.size := fun p hp => by simpa using List.all_eq_true.1 hkx p hp
      have hkys : ∀ p ∈ ys, p.cells.length = j.size ∧ storable p.cells = true := fun p hp => by simpa using List.all_eq_true.1 hky p hp
      have hky' : ∀ p ∈ ys, p.cells.length = j.size := fun p hp => (hkys p hp).1
      have hkxy : ∀ p ∈ xs ++ ys, p.cells.length = j.size := fun p hp => by
        rcases List.mem_append.1 hp with hp | hp
        · exact hkx' p hp
        · exact hky' p hp
      obtain ⟨vx, vx1, _, vx2, vx3⟩ := hLx.1.slcVals hkx'
      obtain ⟨vy, vy1, _, vy2, vy3⟩ := hY.slcVals hky'
      have h1 := h.disown x
      have hex : a.eval (.tmp x) = .slice base xs.length sCap := hxval
      by_cases hys : ys = []
      · -- nothing is appended
        subst hys
        simp only [List.append_nil]
        have hr := run_append_none (P := P) (ty := o.type) hu hj base xs.length sCap q capy hxcap w
        obtain ⟨om', h2⟩ := h1.putd hd (om (.t x)) hLx (fun b hb => ⟨h.omw _ _ hb, fun ℓ hℓ => by
          by_cases e : ℓ = .t x
          · rw [e, upd_same] at hℓ; cases hℓ
          · rw [upd_other _ _ e] at hℓ
            exact e (h.inj _ _ b hℓ hb)⟩)
        exact ⟨_, w, _, _, om', .inl (hrun _ _ (by rw [hex, hyval]; exact hr)), h2⟩
      · have hyl : 0 < ys.length := by
          rcases Nat.eq_zero_or_pos ys.length with h0 | h0
          · exact absurd (List.length_eq_zero_iff.1 h0) hys
          · exact h0
        obtain ⟨bq, oq, rfl, hqc⟩ := vy2.resolve_left hys
        have hnews : ∀ i v, vy[i]? = some v → w.cell? ((⟨bq, oq, none⟩ : Addr).add i) = some v := fun i v hv => by rw [addr_add]; exact kell_cell (hqc i v hv).2
        by_cases hroom : xs.length + ys.length ≤ sCap
        · -- there is room: the array is one's own
          have hxs : xs ≠ [] := by
            intro e0
            subst e0
            have := hLx.1
            cases this with
            | slc0 h0 => have := h0 rfl; simp at hroom; omega
            | slc _ hne => exact absurd rfl hne
          obtain ⟨a0, l0, c0, ev, hown⟩ := hLx.2.1 xs rfl hxs
          cases ev
          rcases hown with hown | ⟨b, off, k, hba, hob, hL, _, hk, ⟨cs, tb, hbl, hsize⟩, hfree⟩
          · omega
          · subst hba
            have hB := (h.omw _ _ hob).2.1
            have hkk : k = j.size := by
              obtain ⟨p, hp⟩ := List.exists_mem_of_ne_nil _ hxs
              rw [← hk p hp, hkx' p hp]
            subst hkk
            have hfit : off + xs.length * j.size + vy.length ≤ cs.size := by
              have : (xs.length + ys.length) * j.size ≤ sCap * j.size := Nat.mul_le_mul_right _ hroom
              rw [Nat.add_mul] at this
              omega
            have hone : ∀ v ∈ vy, v.oneCell' = true := by
              intro v hv
              obtain ⟨i, hi⟩ := List.mem_iff_getElem?.1 hv
              have hlt : i < ys.length * j.size := by rw [← vy1]; exact (List.getElem?_eq_some_iff.1 hi).1
              have hk0 : 0 < j.size := by omega
              have hq1 : i / j.size < ys.length := by rw [Nat.div_lt_iff_lt_mul hk0]; exact hlt
              have hst := hkys ys[i / j.size] (List.getElem_mem hq1)
              have hc1 : i % j.size < (ys[i / j.size]).cells.length := by rw [hst.1]; exact Nat.mod_lt _ hk0
              have hrel := vy3 (i / j.size) (i % j.size) ys[i / j.size] (ys[i / j.size]).cells[i % j.size] v (by simp [hq1]) (by simp [hc1]) (by rw [Nat.mul_comm, Nat.div_add_mod]; exact hi)
              exact hrel.one (List.all_eq_true.1 hst.2 _ (List.getElem_mem hc1))
            have hr := run_append_room (P := P) (ty := o.type) hu hj b off xs.length sCap ⟨bq, oq, none⟩ ys.length capy vy vy1 hnews hroom hbl hfit hone
            have hom : ∀ ℓ, upd om (.t x) none ℓ ≠ some b := fun ℓ hℓ => by
              by_cases e : ℓ = .t x
              · rw [e, upd_same] at hℓ; cases hℓ
              · rw [upd_other _ _ e] at hℓ
                exact e (h.inj _ _ b hℓ hob)
            -- the row behind it
            have hblt : b < w.heap.size := (Array.getElem?_eq_some_iff.1 hbl).1
            have hbl' := setRow_heap w b cs (cs.toList.take (off + xs.length * j.size) ++ vy ++ cs.toList.drop (off + xs.length * j.size + vy.length)).toArray tb (0, 0) hbl
            have hrow : ∀ i, (cs.toList.take (off + xs.length * j.size) ++ vy ++ cs.toList.drop (off + xs.length * j.size + vy.length))[i]? = if off + xs.length * j.size ≤ i ∧ i < off + xs.length * j.size + vy.length then vy[i - (off + xs.length * j.size)]? else cs[i]? := by
              intro i
              have hlt : (cs.toList.take (off + xs.length * j.size)).length = off + xs.length * j.size := by simp; omega
              by_cases g1 : i < off + xs.length * j.size
              · rw [if_neg (by omega), List.getElem?_append_left (by simp; omega), List.getElem?_append_left (by omega), List.getElem?_take, if_pos g1]; simp
              · by_cases g2 : i < off + xs.length * j.size + vy.length
                · rw [if_pos (by omega), List.getElem?_append_left (by rw [List.length_append]; omega), List.getElem?_append_right (by omega), hlt]
                · rw [if_neg (by omega), List.getElem?_append_right (by rw [List.length_append]; omega), List.getElem?_drop, List.length_append, hlt]
                  simp
                  congr 1
                  omega
            have h2 := h1.scribble (w' := w.setRow b (cs.toList.take (off + xs.length * j.size) ++ vy ++ cs.toList.drop (off + xs.length * j.size + vy.length)).toArray) b hB hL hom ⟨_, _, _, hbl⟩ (setRow_size _ _ _) rfl rfl rfl (fun b' hne => setRow_heap_ne _ _ _ _ hne) (fun o' hpo => by
              have hlt : o' < off + xs.length * j.size := by
                rcases Nat.lt_or_ge o' (off + xs.length * j.size) with g | g
                · exact g
                · exact absurd hpo (hfree o' g)
              rw [kell_cells hbl', kell_cells hbl]
              simp only [List.getElem?_toArray]
              rw [hrow, if_neg (by omega)])
            have h3 := h2.prot (fun b' o' => b' = b ∧ off + xs.length * j.size ≤ o' ∧ o' < off + (xs.length + ys.length) * j.size) (fun b' o' hS => by
              obtain ⟨rfl, _, _⟩ := hS
              exact ⟨hL, by rw [setRow_size]; exact hblt, .inr hB, .inr hom⟩)
            have hcellx : ∀ (i : Nat) (u : Value), vx[i]? = some u → π b (off + i) ∧ cs[off + i]? = some u := fun i u hiu => by
              obtain ⟨b0, o0, e0, hx2⟩ := vx2.resolve_left hxs
              cases e0
              obtain ⟨g1, g2⟩ := hx2 i u hiu
              refine ⟨g1, ?_⟩
              rw [kell_cells hbl] at g2; exact g2
            have hlenv : (vx ++ vy).length = (xs ++ ys).length * j.size := by simp [vx1, vy1, Nat.add_mul]
            have hrel0 := rel_append (w := w) (bl := bl) (π := π) vx1 hkx' vx3 vy3
            have hmono : ∀ {p u}, VRel w bl π p u → VRel (w.setRow b (cs.toList.take (off + xs.length * j.size) ++ vy ++ cs.toList.drop (off + xs.length * j.size + vy.length)).toArray) bl (fun b' o' => π b' o' ∨ (b' = b ∧ off + xs.length * j.size ≤ o' ∧ o' < off + (xs.length + ys.length) * j.size)) p u :=
              fun hpu => hpu.mono (fun _ _ h => h) (fun _ _ h => .inl h) (fun b' o' hpo => by
                by_cases e : b' = b
                · subst e
                  have hlt : o' < off + xs.length * j.size := by
                    rcases Nat.lt_or_ge o' (off + xs.length * j.size) with g | g
                    · exact g
                    · exact absurd hpo (hfree o' g)
                  rw [kell_cells hbl', kell_cells hbl]
                  simp only [List.getElem?_toArray]
                  rw [hrow, if_neg (by omega)]
                · exact cell_of_block (setRow_heap_ne _ _ _ _ e))
            have hnew : VRel (w.setRow b (cs.toList.take (off + xs.length * j.size) ++ vy ++ cs.toList.drop (off + xs.length * j.size + vy.length)).toArray) bl (fun b' o' => π b' o' ∨ (b' = b ∧ off + xs.length * j.size ≤ o' ∧ o' < off + (xs.length + ys.length) * j.size)) (.slc true (xs ++ ys)) (.slice (some ⟨b, off, none⟩) (xs ++ ys).length sCap) := by
              refine .ofRow (vs := vx ++ vy) (k := j.size) hkxy hlenv (by simpa using hroom) (fun e0 => absurd (List.append_eq_nil_iff.1 e0).1 hxs) ?_ (fun jj cc p q u g1 g2 g3 => hmono (hrel0 jj cc p q u g1 g2 g3))
              intro i u hiu
              by_cases g : i < vx.length
              · rw [List.getElem?_append_left g] at hiu
                obtain ⟨g1, g2⟩ := hcellx i u hiu
                refine ⟨.inl g1, ?_⟩
                rw [kell_cells hbl']; simp only [List.getElem?_toArray]
                rw [hrow, if_neg (by omega)]
                exact g2
              · rw [List.getElem?_append_right (by omega)] at hiu
                have glt := (List.getElem?_eq_some_iff.1 hiu).1
                have e3 : (xs.length + ys.length) * j.size = vx.length + vy.length := by rw [Nat.add_mul, vx1, vy1]
                refine ⟨.inr ⟨rfl, by omega, by omega⟩, ?_⟩
                rw [kell_cells hbl']; simp only [List.getElem?_toArray]
                rw [hrow, if_pos (by omega), ← hiu]
                congr 1
                omega
            have hlen2 : (xs ++ ys).length = xs.length + ys.length := List.length_append
            obtain ⟨om', h4⟩ := h3.putd hd (some b) ⟨hnew, fun zs e _ => by
              cases e
              refine ⟨_, _, _, rfl, .inr ⟨b, off, j.size, rfl, rfl, hL, by simp [hxs], hkxy, ⟨_, _, hbl', ?_⟩, ?_⟩⟩
              · have := congrArg List.length (List.take_append_drop (off + xs.length * j.size) cs.toList)
                simp only [List.length_append, List.length_take, List.length_drop, Array.length_toList] at this
                simp only [List.size_toArray, List.length_append, List.length_take, List.length_drop, Array.length_toList]
                omega
              · intro o' ho' hpo
                rw [hlen2] at ho'
                rcases hpo with hpo | ⟨_, _, hpo⟩
                · refine hfree o' ?_ hpo
                  rw [Nat.add_mul] at ho'
                  omega
                · omega, fun k e => by cases e⟩ (fun b' hb' => by
              cases hb'
              exact ⟨⟨⟨_, _, hbl'⟩, hB, hL⟩, hom⟩)
            rw [hlen2] at h4
            exact ⟨_, _, _, _, om', .inl (hrun _ _ (by rw [hex, hyval]; exact hr)), h4⟩
        · -- it is moved
          have hr := run_append_move (P := P) (ty := o.type) hu hj hz base xs.length sCap (fun e0 => by
              subst e0
              have := hLx.1
              cases this with
              | slc0 h0 => exact ⟨rfl, h0 rfl⟩) vx vx1 (fun b0 hb0 i v hv => by
                subst hb0
                rcases vx2 with e0 | ⟨b1, o1, e1, hx2⟩
                · subst e0; simp at vx1; subst vx1; simp at hv
                · cases e1; rw [addr_add]; exact kell_cell (hx2 i v hv).2) ⟨bq, oq, none⟩ ys.length capy vy vy1 hnews (by omega) hb2 hb1
          have hge := grownCap_ge w (xs.length + ys.length) sCap e
          have hlen2 : (xs ++ ys).length = xs.length + ys.length := List.length_append
          obtain ⟨bl', π', om', h2⟩ := h1.newRow (w' := w.drew.alloc (.cells (vx.toArray ++ vy.toArray ++ Builtin.zeroCells z.cells (grownCap w (xs.length + ys.length) sCap e - (xs.length + ys.length))) e))
            ((drew_below w).trans (alloc_below w.drew _)) (World.size_alloc _ _) (cs := vx.toArray ++ vy.toArray ++ Builtin.zeroCells z.cells (grownCap w (xs.length + ys.length) sCap e - (xs.length + ys.length))) (t := e) (by show (w.heap.push _)[w.heap.size]? = _; simp) hd
            (xs := xs ++ ys) (k := j.size) (cap := grownCap w (xs.length + ys.length) sCap e) (vs := vx ++ vy) hkxy (by simp [vx1, vy1, Nat.add_mul]) (by rw [hlen2]; exact hge)
            (by simp only [Array.size_append, List.size_toArray, zeroCells_size, vx1, vy1, hzs]
                rw [← Nat.add_mul, ← Nat.add_mul]
                exact Nat.mul_le_mul_right _ (by omega))
            (by simp [hys]) (fun i u hiu => by
              have hi := (List.getElem?_eq_some_iff.1 hiu).1
              simp only [List.length_append] at hi
              rw [Array.getElem?_append_left (by simp; omega)]
              simpa using hiu) (rel_append vx1 hkx' vx3 vy3)
          rw [hlen2] at h2
          exact ⟨_, _, _, _, om', .inl (hrun _ _ (by rw [hex, hyval]; exact hr)), h2⟩
    · cases hp
  · cases hp

end
end Go.Pi
/- New variables, maps, made slices. -/
namespace Go.Pi
open Go.RowKit Go.MapKept

section
variable {P : Program} {E : Ent} {s s' : St} {bl : List Nat} {π : Nat → Nat → Prop} {om : Loc → Option Nat} {a : Act} {w : World}

theorem cell_at {w : World} {b : Nat} {cs : Array Value} {t : TypeId} (h : w.heap[b]? = some (.cells cs t (0, 0))) (o : Nat) : w.kell ⟨b, o, none⟩ = cs[o]? := kell_cells h

theorem sameVs_symm : ∀ {l : List Nat} {us vs : List Value}, sameVs l us vs = some true → sameVs l vs us = some true
  | [], [], [], _ => rfl
  | k :: l, u :: us, v :: vs, h => by
    simp only [sameVs, Option.bind_eq_some_iff, Option.map_eq_some_iff] at h
    obtain ⟨x, hx, y, hy, hxy⟩ := h
    simp only [Bool.and_eq_true] at hxy
    obtain ⟨rfl, rfl⟩ := hxy
    have : sameV k v u = some true := by
      unfold sameV at hx ⊢
      split at hx <;> simp at hx
      · subst hx; simp
      · obtain ⟨rfl, rfl⟩ := hx; simp
      · have := (bytes_beq _ _).1 hx; subst this; simpa using hx
    simp [sameVs, this, sameVs_symm hy]
  | [], [], _ :: _, h => by simp [sameVs] at h
  | [], _ :: _, _, h => by simp [sameVs] at h
  | _ :: _, [], _, h => by simp [sameVs] at h
  | _ :: _, _ :: _, [], h => by simp [sameVs] at h

/-- A slot's value is told anew. -/
theorem Rel.relabel (h : Rel E s bl π om a w) (d : Nat) {p : PV} (hv : VRel w bl π p (a.tmps.getD d undef)) (hp : NoOwn p) : Rel E { s with t := upd s.t d p } bl π (upd om (.t d) none) a w := by
  refine { dfr := h.dfr, sz := h.sz, tm := ?_, len := h.len, nd := h.nd, lt := h.lt, ob := ?_, pr := h.pr, inj := ?_, omw := ?_, omc := fun id off hid => by rw [upd_other _ _ (by simp)]; exact h.omc id off hid, fr := h.fr, el := h.el }
  · intro t
    by_cases ht : t = d
    · subst ht
      simp only [upd_same]
      exact .plain hv hp
    · rw [upd_other _ _ (by simpa using ht)]
      simp only [upd_other _ _ ht]
      exact h.tm t
  · intro id o b ho hbl
    refine (h.ob id o b ho hbl).move (fun off z u hl => ?_) (fun _ _ hl => hl) (fun _ => rfl) (Nat.le_refl _)
    rw [upd_other _ _ (by simp)]
    exact hl
  · intro ℓ ℓ' b h1 h2
    by_cases e1 : ℓ = .t d
    · rw [e1, upd_same] at h1; simp at h1
    · by_cases e2 : ℓ' = .t d
      · rw [e2, upd_same] at h2; simp at h2
      · rw [upd_other _ _ e1] at h1
        rw [upd_other _ _ e2] at h2
        exact h.inj ℓ ℓ' b h1 h2
  · intro ℓ b ho
    by_cases e : ℓ = .t d
    · rw [e, upd_same] at ho; simp at ho
    · rw [upd_other _ _ e] at ho
      exact h.omw ℓ b ho

theorem not_live_new (h : Rel E s bl π om a w) : ¬ Live bl s.H w.heap.size := by
  rintro ⟨id, o, hbl, _, _⟩
  have := h.lt _ (List.mem_of_getElem? hbl)
  omega

theorem done_allocF (h : Rel E s bl π om a w) {o : Oper} {t : TypeId} {z : List PV} (ho : o.op = .alloc t) (hz : zeroOf P t = some z) (hd : ∀ t, o.dst = some t → t < E.n) : Done P E (s.set o.dst (.fb z.length)) a w o := by
  obtain ⟨i, v, hi, hv, hl, hr⟩ := zeroOf_rel hz
  have h1 := h.grow (alloc_below w (.cells v.cells t))
  have hw : (w.alloc (.cells v.cells t)).heap[w.heap.size]? = some (.cells v.cells t (0, 0)) := World.alloc_heap_new w _
  obtain ⟨om', h2⟩ := h1.putd hd (p := .fb z.length) (v := .pointer (some ⟨w.heap.size, 0, none⟩)) (some w.heap.size) ⟨.fb _ _, (fun _ e => by cases e), (fun k e => by
    cases e
    exact ⟨w.heap.size, v.cells, t, rfl, rfl, not_live_new h, hw, hl, fun o hp => by have := (h.pr _ o hp).2; omega⟩)⟩ (fun b hb => by
      cases hb
      exact ⟨⟨⟨_, _, hw⟩, .inl h.fr.size, not_live_new h⟩, fun ℓ hℓ => by have := h.omlt ℓ _ hℓ; omega⟩)
  refine ⟨_, _, _, _, om', .inl ?_, h2⟩
  simp [execOp, ho, Instr.alloc, zeroValue, typeInfo, hi, hv, newVar, newRow]

theorem done_storeF (h : Rel E s bl π om a w) {o : Oper} {t : TypeId} {k : Nat} {g : Bool} {x : Operand} {p : Nat} {y : Arg} (ho : o.op = .store t (.tmp p) x) (hk : sizeAgg P t = some (k, g)) (hy : argOf x = some y) (hd : ∀ t, o.dst = some t → t < E.n)
    (hp : (PO.storeF p y k).step o.dst s = some s') : Done P E s' a w o := by
  simp only [PO.step] at hp
  split at hp
  · rename_i n hsp
    split at hp
    · rename_i hc
      obtain ⟨rfl, hc1, hc2, hne⟩ := hc
      cases hp
      obtain ⟨b, cs, ty, hv, hob, hL, hw, hsz, hπ⟩ := (h.tm p).2.2 n hsp
      have hval := h.arg hy
      obtain ⟨c1, c2⟩ := hval.cellsOf (storable_ne hc2)
      have h1 := h.disown p
      have hom : ∀ ℓ, upd om (.t p) none ℓ ≠ some b := fun ℓ hℓ => by
        by_cases e : ℓ = .t p
        · rw [e, upd_same] at hℓ; cases hℓ
        · rw [upd_other _ _ e] at hℓ
          exact e (h.inj _ _ b hℓ hob)
      have hB := (h.omw _ _ hob).2.1
      have hwr := setRow_heap w b cs (cs.toList.take 0 ++ (a.eval x).cells.toList ++ cs.toList.drop (0 + (a.eval x).cells.toList.length)).toArray ty (0, 0) hw
      have h2 := h1.scribble (w' := w.setRow b (cs.toList.take 0 ++ (a.eval x).cells.toList ++ cs.toList.drop (0 + (a.eval x).cells.toList.length)).toArray) b hB hL hom ⟨_, _, _, hw⟩ (setRow_size _ _ _) rfl rfl rfl (fun b' hne => setRow_heap_ne _ _ _ _ hne)
        (fun o' hpo => absurd hpo (hπ o'))
      have hblt : b < w.heap.size := (Array.getElem?_eq_some_iff.1 hw).1
      have h3 := h2.prot (fun b' o' => b' = b ∧ o' < n) (fun b' o' hS => by
        obtain ⟨rfl, _⟩ := hS
        exact ⟨hL, by rw [setRow_size]; exact hblt, .inr hB, .inr hom⟩)
      have hlen : ((s.arg y).cells.map PV.strip).length = n := by simpa using hc1
      have hcv : ∀ c, c < n → (w.setRow b (cs.toList.take 0 ++ (a.eval x).cells.toList ++ cs.toList.drop (0 + (a.eval x).cells.toList.length)).toArray).kell ⟨b, 0 + c, none⟩ = some ((a.eval x).cells[c]?.getD undef) := fun c hc' => by
        have hlt : c < (a.eval x).cells.size := by omega
        rw [cell_at hwr]
        simp only [Nat.zero_add, List.getElem?_toArray, List.take_zero, List.nil_append]
        rw [List.getElem?_append_left (by simp; omega)]
        simp [hlt]
      have hrel : VRel (w.setRow b (cs.toList.take 0 ++ (a.eval x).cells.toList ++ cs.toList.drop (0 + (a.eval x).cells.toList.length)).toArray) bl (fun b' o' => π b' o' ∨ (b' = b ∧ o' < n)) (.ept ((s.arg y).cells.map PV.strip) 0) (a.tmps.getD p undef) := by
        rw [hv]
        have := VRel.ept (w := w.setRow b (cs.toList.take 0 ++ (a.eval x).cells.toList ++ cs.toList.drop (0 + (a.eval x).cells.toList.length)).toArray) (bl := bl) (π := fun b' o' => π b' o' ∨ (b' = b ∧ o' < n)) (cs := (s.arg y).cells.map PV.strip) (off := 0) (b := b) (base := 0) (fun c => (a.eval x).cells[c]?.getD undef)
          (fun c hc' => ⟨.inr ⟨rfl, by omega⟩, hcv c (by omega)⟩) (fun c z hz => by
            simp only [List.getElem?_map, Option.map_eq_some_iff] at hz
            obtain ⟨z', hz', rfl⟩ := hz
            have hlt : c < (a.eval x).cells.size := by rw [c1]; exact (List.getElem?_eq_some_iff.1 hz').1
            have hu : (a.eval x).cells[c]? = some (a.eval x).cells[c] := Array.getElem?_eq_getElem hlt
            rw [hu]
            exact ((c2 c z' _ hz' hu).strip).mono (fun _ _ h => h) (fun _ _ h => .inl h) (fun b' o' hpo => by
              have : b' ≠ b := fun e => hπ o' (e ▸ hpo)
              exact cell_of_block (setRow_heap_ne _ _ _ _ this)))
        simpa using this
      have h4 := h3.relabel p hrel (.of fun _ e => by cases e)
      have h5 : Rel E ({ s with t := upd s.t p (.ept ((s.arg y).cells.map PV.strip) 0) } : St) bl (fun b' o' => π b' o' ∨ (b' = b ∧ o' < n)) (upd (upd om (.t p) none) (.t p) none) a (w.setRow b (cs.toList.take 0 ++ (a.eval x).cells.toList ++ cs.toList.drop (0 + (a.eval x).cells.toList.length)).toArray) := by
        have e : upd (upd s.t p (s.t p).strip) p (.ept ((s.arg y).cells.map PV.strip) 0) = upd s.t p (.ept ((s.arg y).cells.map PV.strip) 0) := by
          funext i; simp only [upd]; split <;> rfl
        simpa only [e] using h4
      obtain ⟨om', h6⟩ := h5.putd hd none (.plain (.junk undef) (.of fun _ e => by cases e)) (fun b hb => by cases hb)
      have hrun := run_storeAt (P := P) (w := w) (off := 0) hk hw (v := a.eval x) (by rw [c1, hc1]) (storable_one hval hc2) (by omega)
      refine ⟨undef, _, _, _, om', .inr ⟨?_, rfl⟩, h6⟩
      have hev : a.eval (.tmp p) = .pointer (some ⟨b, 0, none⟩) := hv
      simp [execOp, ho, hev, hrun]
    · cases hp
  · cases hp

theorem done_boxF (h : Rel E s bl π om a w) {o : Oper} {t : TypeId} {x : Operand} {y : Arg} {p : PV} (ho : o.op = .box t x) (hy : argOf x = some y) (hd : ∀ t, o.dst = some t → t < E.n) (hp : (PO.boxF y).val s = some p) : Done P E (s.set o.dst p) a w o := by
  simp only [PO.val] at hp
  split at hp
  · rename_i hst
    cases hp
    have hval := h.arg hy
    obtain ⟨c1, c2⟩ := hval.cellsOf (storable_ne hst)
    have h1 := h.grow (alloc_below w (.cells (a.eval x).cells t))
    have hw : (w.alloc (.cells (a.eval x).cells t)).heap[w.heap.size]? = some (.cells (a.eval x).cells t (0, 0)) := World.alloc_heap_new w _
    have h2 := h1.prot (fun b o => b = w.heap.size ∧ o < (s.arg y).cells.length) (fun b o hS => by
      obtain ⟨rfl, _⟩ := hS
      exact ⟨not_live_new h, by simp, .inr (.inl h.fr.size), .inr (fun ℓ hℓ => by have := h.omlt ℓ _ hℓ; omega)⟩)
    have hrel := VRel.ept (w := w.alloc (.cells (a.eval x).cells t)) (bl := bl) (π := fun b o => π b o ∨ (b = w.heap.size ∧ o < (s.arg y).cells.length)) (cs := (s.arg y).cells.map PV.strip) (off := 0) (b := w.heap.size) (base := 0) (fun c => (a.eval x).cells[c]?.getD undef)
      (fun c hc' => ⟨.inr ⟨rfl, by simpa using hc'⟩, by
        have hlt : c < (a.eval x).cells.size := by rw [c1]; simpa using hc'
        rw [cell_at hw]; simp [hlt]⟩) (fun c z hz => by
        simp only [List.getElem?_map, Option.map_eq_some_iff] at hz
        obtain ⟨z', hz', rfl⟩ := hz
        have hlt : c < (a.eval x).cells.size := by rw [c1]; exact (List.getElem?_eq_some_iff.1 hz').1
        have hu : (a.eval x).cells[c]? = some (a.eval x).cells[c] := Array.getElem?_eq_getElem hlt
        rw [hu]
        exact ((c2 c z' _ hz' hu).strip).mono (fun _ _ h => h) (fun _ _ h => .inl h) (fun b' o' hpo => cell_of_block ((alloc_below w _).block b' (h.pr b' o' hpo).2)))
    obtain ⟨om', h3⟩ := h2.putd hd none (.plain hrel (.of fun _ e => by cases e)) (fun b hb => by cases hb)
    refine ⟨_, _, _, _, om', .inl ?_, h3⟩
    simp [execOp, ho, Instr.box, newVar, newRow]
  · cases hp

theorem done_nilsl (h : Rel E s bl π om a w) {o : Oper} {t e : TypeId} {j : TypeInfo} {parts : Array (Nat × Operand)} (ho : o.op = .buildSlice t 0 parts) (hu : P.underlying t = some (.slice e)) (hj : P.info? e = some j) (hps : parts.isEmpty = true) (hd : ∀ t, o.dst = some t → t < E.n) : Done P E (s.set o.dst (.slc true [])) a w o := by
  have hpe : parts = #[] := by simpa using hps
  have h1 := h.grow (alloc_below w (.cells #[] e))
  obtain ⟨om', h3⟩ := h1.putd hd (p := .slc true []) (v := .slice (some ⟨w.heap.size, 0, none⟩) 0 0) none (.plain (.slc0 (fun _ => rfl)) (.of fun xs e => by cases e; rfl)) (fun b hb => by cases hb)
  refine ⟨_, _, _, _, om', .inl ?_, h3⟩
  simp [execOp, ho, Instr.buildSlice, run_underlying hu, sizeOf, typeInfo, hj, hpe, Instr.fill, newRow]
  rw [show Array.range 0 = #[] from by simp [Array.range], Array.map_empty]

/-- A block that is no row of cells becomes another object. -/
theorem run_setObj_put {b : Nat} {o o' : Obj} (h : w.heap[b]? = some o) (hn : isRow o = false := by rfl) : (setObj b o').run P w = .ok () (w.putObj b o') := by
  cases o <;> simp [isRow] at hn <;> simp [setObj, Sem.run, h, World.putObj]

/-- A map's object is turned. -/
theorem Rel.setMap (h : Rel E s bl π om a w) {id b clock clock' : Nat} {es es' : List (PV × PV × Nat)} {arr arr' : Array MapEntry} (hg : s.H[id]? = some (.map clock es)) (hbl : bl[id]? = some b) (hw : w.heap[b]? = some (.map arr clock))
    (hl : arr'.size = es'.length) (hr : ∀ (i : Nat) (kv : PV × PV × Nat) (e : MapEntry), es'[i]? = some kv → arr'[i]? = some e → VRel w bl π kv.1 e.key ∧ VRel w bl π kv.2.1 e.val ∧ e.born = kv.2.2) :
    Rel E { s with H := s.H.set id (.map clock' es') } bl π om a (w.putObj b (.map arr' clock')) := by
  have hlt := (Array.getElem?_eq_some_iff.1 hw).1
  refine h.setObj hg hbl (by simp) (by simp) (by simp) rfl rfl rfl (fun b' hne => World.putObj_heap_other hne) (fun _ _ => rfl) h.inj ?_ ?_
  · intro ℓ q hq
    obtain ⟨⟨cs, t, h1⟩, h2⟩ := h.omw ℓ q hq
    have hne : q ≠ b := fun e => by rw [e, hw] at h1; cases h1
    exact ⟨⟨cs, t, by rw [World.putObj_heap_other hne]; exact h1⟩, h2⟩
  · intro hcell hlv hnl
    exact ⟨arr', World.putObj_heap_same hlt, hl, fun i kv e hkv he => by
      obtain ⟨g1, g2, g3⟩ := hr i kv e hkv he
      exact ⟨g1.mono (fun _ _ h => h) (fun _ _ h => h) hcell, g2.mono (fun _ _ h => h) (fun _ _ h => h) hcell, g3⟩⟩

theorem stripAll_rel {p : PV} {v : Value} (h : VRel w bl π p v) : VRel w bl π (stripAll p) v := by
  cases p with
  | agg cs =>
    cases h with
    | agg hl hr => exact .agg (by simpa using hl) (fun i z u hz hu => by
        simp only [List.getElem?_map, Option.map_eq_some_iff] at hz
        obtain ⟨z', hz', rfl⟩ := hz
        exact (hr i z' u hz' hu).strip)
  | _ => exact h.strip

theorem done_mkmap (h : Rel E s bl π om a w) {o : Oper} {t : TypeId} (ho : o.op = .makeMap t none) (hd : ∀ t, o.dst = some t → t < E.n) : Done P E (({ s with H := s.H ++ [.map 0 []] } : St).set o.dst (.map s.H.length)) a w o := by
  have h1 := h.newObj (.map #[] 0) (.map 0 []) (fun w' hw' hc hlt => ⟨#[], hw', rfl, fun i kv e hi => by simp at hi⟩)
  have hptr : VRel (w.alloc (.map #[] 0)) (bl ++ [w.heap.size]) π (.map s.H.length) (.map (some w.heap.size)) := .map (by rw [← h.len]; simp)
  obtain ⟨om', h2⟩ := h1.putd hd none (.plain hptr (.of fun _ e => by cases e)) (fun b hb => by cases hb)
  exact ⟨_, _, _, _, om', .inl (by simp [execOp, ho, Instr.makeMap]), h2⟩

theorem done_mrange (h : Rel E s bl π om a w) {o : Oper} {t : TypeId} {x : Operand} {y : Arg} (ho : o.op = .range t x) (ht : isMapT P t = true) (hy : argOf x = some y) (hd : ∀ t, o.dst = some t → t < E.n) (hp : (PO.mrange y).step o.dst s = some s') : Done P E s' a w o := by
  obtain ⟨kt, e, hu⟩ : ∃ kt e, P.underlying t = some (.map kt e) := by
    unfold isMapT at ht
    split at ht
    · exact ⟨_, _, by assumption⟩
    · cases ht
  simp only [PO.step, Option.map_eq_some_iff] at hp
  obtain ⟨ob, hob, rfl⟩ := hp
  have hmr := h.arg hy
  have fin : ∀ (mo : Option Nat) (mb : Option Nat) (since : Nat), ob = .miter mo since [] since → VRel w bl π (iterPV mo) (.map mb) →
      (execOp a.eval o).run P w = .ok (.value (.pointer (some ⟨w.heap.size, 0, none⟩))) (w.alloc (.mapIter mb since #[] since)) → Done P E (({ s with H := s.H ++ [ob] } : St).set o.dst (.ptr s.H.length 0)) a w o := by
    intro mo mb since e1 e2 hrun
    subst e1
    have h1 := h.newObj (.mapIter mb since #[] since) (.miter mo since [] since) (fun w' hw' hc hlt => ⟨mb, hw', e2.mono (fun i b hi => by rw [List.getElem?_append_left (List.getElem?_eq_some_iff.1 hi).1]; exact hi) (fun _ _ h => h) hc⟩)
    have hptr : VRel (w.alloc (.mapIter mb since #[] since)) (bl ++ [w.heap.size]) π (.ptr s.H.length 0) (.pointer (some ⟨w.heap.size, 0, none⟩)) := .ptr (by rw [← h.len]; simp)
    obtain ⟨om', h2⟩ := h1.putd hd none (.plain hptr (.of fun _ e => by cases e)) (fun b hb => by cases hb)
    exact ⟨_, _, _, _, om', .inl hrun, h2⟩
  generalize s.arg y = mp at hmr hob
  generalize hv : a.eval x = mv at hmr
  unfold mrangePV at hob
  split at hob
  · cases hob
    cases hmr
    exact fin none none 0 rfl (.v rfl) (by simp [execOp, ho, hv, Instr.range, run_underlying hu])
  · split at hob
    · rename_i clock es hg
      cases hob
      cases hmr with
      | map hb =>
        rename_i b
        obtain ⟨arr, e1, e2, e3⟩ := h.mapObj hg hb
        exact fin (some _) (some b) clock rfl (.map hb) (by simp [execOp, ho, hv, Instr.range, run_underlying hu, run_getObj_at e1])
    · cases hob
  · cases hob

theorem elemOK_rel {p : PV} (h : elemOK p = true) : p.one = true ∨ ∃ cs, p = .agg cs := storable_ne h

theorem findK_lt {ks : Bool × List Nat} {k : PV} : ∀ {es : List (PV × PV × Nat)} {i : Nat}, findK ks k es = some (some i) → i < es.length
  | [], i, h => by simp [findK] at h
  | e :: es, i, h => by
    simp only [findK, Option.bind_eq_some_iff] at h
    obtain ⟨b, _, h⟩ := h
    cases b with
    | true => simp at h; subst h; simp
    | false =>
      simp only [Bool.false_eq_true, if_false, Option.map_eq_some_iff] at h
      obtain ⟨o, ho, hi⟩ := h
      cases o with
      | none => simp at hi
      | some j => simp at hi; subst hi; have := findK_lt ho; simp; omega

theorem findK_eq {ks : Bool × List Nat} {k : PV} : ∀ {es : List (PV × PV × Nat)} {i : Nat} {e : PV × PV × Nat}, findK ks k es = some (some i) → es[i]? = some e → keyEq ks k e.1 = some true
  | [], i, _, h, _ => by simp [findK] at h
  | e :: es, i, e', h, he => by
    simp only [findK, Option.bind_eq_some_iff] at h
    obtain ⟨b, hb, h⟩ := h
    cases b with
    | true => simp at h; subst h; simp at he; subst he; exact hb
    | false =>
      simp only [Bool.false_eq_true, if_false, Option.map_eq_some_iff] at h
      obtain ⟨o, ho, hi⟩ := h
      cases o with
      | none => simp at hi
      | some j => simp at hi; subst hi; exact findK_eq ho (by simpa using he)

theorem findK_self {ks : Bool × List Nat} {k : PV} {es : List (PV × PV × Nat)} {o : Option Nat} (h : findK ks k es = some o) (hne : es ≠ []) : ∃ b, keyEq ks k k = some b := by
  match es, hne with
  | e :: es, _ =>
    simp only [findK, Option.bind_eq_some_iff] at h
    obtain ⟨b, hb, _⟩ := h
    exact ⟨true, (keyEq_self hb).1⟩

/-- The key that stays. -/
theorem run_stays {ks : Bool × List Nat} {t : TypeId} (ht : keyT P t = some ks) {k k0 : PV} {v v0 : Value} (h : VRel w bl π k v) (h0 : VRel w bl π k0 v0) (he : keyEq ks k k0 = some true) (w' : World) : (Instr.keyThatStays v0 v).run P w' = .ok v w' := by
  obtain ⟨us, vs, rfl, h1, h2, h3⟩ := h.ofKey ht he
  obtain ⟨vs', _, rfl, g2, _, _⟩ := h0.ofKey ht (keyEq_self he).2
  have hv : vs' = vs := (List.map_inj_right (fun a b h => by cases h; rfl)).1 (g2.symm.trans h2)
  subst hv
  exact run_keyStays (keyT_flat ht) (sameVs_symm h3) w'

theorem set_rel {es : List (PV × PV × Nat)} {arr : Array MapEntry} (hl : arr.size = es.length) (hr : ∀ (i : Nat) (kv : PV × PV × Nat) (e : MapEntry), es[i]? = some kv → arr[i]? = some e → VRel w bl π kv.1 e.key ∧ VRel w bl π kv.2.1 e.val ∧ e.born = kv.2.2)
    (j : Nat) (kv' : PV × PV × Nat) (f : MapEntry → MapEntry) (hf : ∀ e, arr[j]? = some e → VRel w bl π kv'.1 (f e).key ∧ VRel w bl π kv'.2.1 (f e).val ∧ (f e).born = kv'.2.2) :
    (arr.modify j f).size = (es.set j kv').length ∧ ∀ (i : Nat) (kv : PV × PV × Nat) (e : MapEntry), (es.set j kv')[i]? = some kv → (arr.modify j f)[i]? = some e → VRel w bl π kv.1 e.key ∧ VRel w bl π kv.2.1 e.val ∧ e.born = kv.2.2 := by
  refine ⟨by simp [hl], fun i kv e hkv he => ?_⟩
  rw [Array.getElem?_modify] at he
  by_cases hij : j = i
  · subst hij
    rw [if_pos rfl] at he
    simp only [Option.map_eq_some_iff] at he
    obtain ⟨e0, he0, rfl⟩ := he
    have hlt : j < es.length := by rw [← hl]; exact (Array.getElem?_eq_some_iff.1 he0).1
    rw [List.getElem?_set_self hlt] at hkv
    cases hkv
    exact hf e0 he0
  · rw [if_neg hij] at he
    rw [List.getElem?_set_ne hij] at hkv
    exact hr i kv e hkv he

theorem push_rel {es : List (PV × PV × Nat)} {arr : Array MapEntry} (hl : arr.size = es.length) (hr : ∀ (i : Nat) (kv : PV × PV × Nat) (e : MapEntry), es[i]? = some kv → arr[i]? = some e → VRel w bl π kv.1 e.key ∧ VRel w bl π kv.2.1 e.val ∧ e.born = kv.2.2)
    (kv' : PV × PV × Nat) (e' : MapEntry) (hf : VRel w bl π kv'.1 e'.key ∧ VRel w bl π kv'.2.1 e'.val ∧ e'.born = kv'.2.2) :
    (arr.push e').size = (es ++ [kv']).length ∧ ∀ (i : Nat) (kv : PV × PV × Nat) (e : MapEntry), (es ++ [kv'])[i]? = some kv → (arr.push e')[i]? = some e → VRel w bl π kv.1 e.key ∧ VRel w bl π kv.2.1 e.val ∧ e.born = kv.2.2 := by
  refine ⟨by simp [hl], fun i kv e hkv he => ?_⟩
  by_cases hi : i < es.length
  · rw [List.getElem?_append_left hi] at hkv
    rw [Array.getElem?_push_lt (by omega)] at he
    exact hr i kv e hkv (by rw [Array.getElem?_eq_getElem (by omega)]; exact he)
  · have hi' : i = es.length := by
      have := (List.getElem?_eq_some_iff.1 hkv).1
      simp at this; omega
    subst hi'
    rw [← hl] at he
    simp at hkv he
    subst hkv; subst he
    exact hf

end
end Go.Pi
/- Maps turned, slices made, bytes of a text. -/
namespace Go.Pi
open Go.RowKit Go.MapKept

section
variable {P : Program} {E : Ent} {s s' : St} {bl : List Nat} {π : Nat → Nat → Prop} {om : Loc → Option Nat} {a : Act} {w : World}

theorem done_mentry (h : Rel E s bl π om a w) {o : Oper} {t kt e : TypeId} {ks : Bool × List Nat} {z : PV} {m k : Operand} {m' k' : Arg} (ho : o.op = .mapEntry t m k) (hu : P.underlying t = some (.map kt e)) (hks : keyT P kt = some ks) (hz : zeroPV P e = some z)
    (hm : argOf m = some m') (hk : argOf k = some k') (hd : ∀ t, o.dst = some t → t < E.n) (hp : (PO.mentry ks z m' k').step o.dst s = some s') : Done P E s' a w o := by
  simp only [PO.step, Option.map_eq_some_iff] at hp
  obtain ⟨r, hr, rfl⟩ := hp
  have hmr := h.arg hm
  have hkr := h.arg hk
  obtain ⟨zi, zv, hzi, hzv, hzo, hzr⟩ := zeroPV_rel hz
  generalize hmv : a.eval m = mv at hmr
  generalize hkv : a.eval k = kv at hkr
  unfold mentryPV at hr
  split at hr
  · rename_i id hqa
    rw [hqa] at hmr
    split at hr
    · rename_i clock es hg
      split at hr
      · rename_i hok
        simp only [Bool.and_eq_true] at hok
        obtain ⟨bself, hself⟩ := Option.isSome_iff_exists.1 hok.2
        simp only [Option.bind_eq_some_iff] at hr
        obtain ⟨fo, hfo, hr⟩ := hr
        cases hmr with
        | map hb =>
          rename_i b
          obtain ⟨arr, e1, e2, e3⟩ := h.mapObj hg hb
          have hkeys : ∀ (i : Nat) (e : PV × PV × Nat) (m : MapEntry), es[i]? = some e → arr.toList[i]? = some m → VRel w bl π e.1 m.key := fun i e' m' he hm' => (e3 i e' m' he (by simpa using hm')).1
          have r4 := run_check hks hkr hself false w
          have r5 := run_findKey' (l := arr.toList) hks hkr hfo (by simpa using e2) hkeys
          cases fo with
          | some i =>
            simp only [Option.map_eq_some_iff] at hr
            obtain ⟨en, hen, rfl⟩ := hr
            have hlt : i < arr.size := by rw [e2]; exact (List.getElem?_eq_some_iff.1 hen).1
            have hai : arr[i]? = some arr[i] := Array.getElem?_eq_getElem hlt
            obtain ⟨g1, g2, g3⟩ := e3 i en arr[i] hen hai
            have r6 := run_stays (P := P) hks hkr g1 (findK_eq hfo hen) w
            obtain ⟨s1, s2⟩ := set_rel e2 e3 i (stripAll (s.arg k'), en.2) (fun e => { e with key := kv }) (fun e0 he0 => by
              rw [hai] at he0; cases he0
              exact ⟨stripAll_rel hkr, g2, g3⟩)
            have h1 := h.setMap (clock' := clock) hg hb e1 s1 s2
            have hcell : ∀ b' o, π b' o → (w.putObj b (.map (arr.modify i fun e => { e with key := kv }) clock)).kell ⟨b', o, none⟩ = w.kell ⟨b', o, none⟩ := fun b' o' hp' => by
              refine cell_of_block (World.putObj_heap_other (fun e' => ?_))
              subst e'
              exact (h.pr _ _ hp').1 ⟨id, _, hb, hg, by simp⟩
            obtain ⟨om', h2⟩ := h1.putd hd (p := .tup [en.2.1, .v (.int .i64 en.2.2)]) (v := .tuple #[arr[i].val, .int .i64 en.2.2]) none (.plain (.tup rfl (fun j q u hq hu => by
              match j with
              | 0 => simp at hq hu; subst hq; subst hu; exact g2.mono (fun _ _ h => h) (fun _ _ h => h) hcell
              | 1 => simp at hq hu; subst hq; subst hu; exact .v rfl
              | j + 2 => simp at hq)) (.of fun _ e => by cases e)) (fun b hb => by cases hb)
            refine ⟨_, _, _, _, om', .inl ?_, h2⟩
            have r6' : (Instr.keyThatStays arr[i].key kv).run P w = .ok kv w := r6
            simp [execOp, ho, hmv, hkv, Instr.mapEntry, run_underlying hu, run_getObj_at e1, r4, r5, hai, r6', run_setObj_put e1, goInt, g3]
          | none =>
            simp only [Option.some.injEq] at hr
            subst hr
            obtain ⟨s1, s2⟩ := push_rel e2 e3 (stripAll (s.arg k'), z, clock) { key := kv, val := zv, born := clock } ⟨stripAll_rel hkr, hzr w bl π, rfl⟩
            have h1 := h.setMap (clock' := clock + 1) hg hb e1 s1 s2
            obtain ⟨om', h2⟩ := h1.putd hd (p := .tup [z, .v (.int .i64 clock)]) (v := .tuple #[zv, .int .i64 clock]) none (.plain (.tup rfl (fun j q u hq hu => by
              match j with
              | 0 => simp at hq hu; subst hq; subst hu; exact hzr _ _ _
              | 1 => simp at hq hu; subst hq; subst hu; exact .v rfl
              | j + 2 => simp at hq)) (.of fun _ e => by cases e)) (fun b hb => by cases hb)
            refine ⟨_, _, _, _, om', .inl ?_, h2⟩
            simp [execOp, ho, hmv, hkv, Instr.mapEntry, run_underlying hu, run_getObj_at e1, r4, r5, run_setObj_put e1, goInt, run_zero hzi hzv]
      · cases hr
    · cases hr
  · cases hr

theorem done_mupd (h : Rel E s bl π om a w) {o : Oper} {t kt e : TypeId} {ks : Bool × List Nat} {m k x : Operand} {m' k' x' : Arg} (ho : o.op = .mapUpdate t m k x ∨ o.op = .insert t m k x) (hu : P.underlying t = some (.map kt e)) (hks : keyT P kt = some ks)
    (hm : argOf m = some m') (hk : argOf k = some k') (hx : argOf x = some x') (hd : ∀ t, o.dst = some t → t < E.n) (hp : (PO.mupd ks m' k' x').step o.dst s = some s') : Done P E s' a w o := by
  simp only [PO.step, Option.map_eq_some_iff] at hp
  obtain ⟨H, hH, rfl⟩ := hp
  have hmr := h.arg hm
  have hkr := h.arg hk
  have hxr := h.arg hx
  generalize hmv : a.eval m = mv at hmr
  generalize hkv : a.eval k = kv at hkr
  generalize hxv : a.eval x = xv at hxr
  have hrunop : ∀ {w'}, (Instr.mapUpdate t mv kv xv).run P w = .ok () w' → (execOp a.eval o).run P w = .ok .skip w' := fun {w'} hr => by
    rcases ho with ho | ho <;> simp [execOp, ho, hmv, hkv, hxv, hr]
  unfold mupdPV at hH
  split at hH
  · rename_i id hqa
    rw [hqa] at hmr
    split at hH
    · rename_i clock es hg
      split at hH
      · rename_i hok
        simp only [Bool.and_eq_true] at hok
        obtain ⟨bself, hself⟩ := Option.isSome_iff_exists.1 hok.2
        simp only [Option.bind_eq_some_iff] at hH
        obtain ⟨fo, hfo, hH⟩ := hH
        cases hmr with
        | map hb =>
          rename_i b
          obtain ⟨arr, e1, e2, e3⟩ := h.mapObj hg hb
          have hkeys : ∀ (i : Nat) (e : PV × PV × Nat) (m : MapEntry), es[i]? = some e → arr.toList[i]? = some m → VRel w bl π e.1 m.key := fun i e' m' he hm' => (e3 i e' m' he (by simpa using hm')).1
          have r4 := run_check hks hkr hself false w
          have r5 := run_findKey' (l := arr.toList) hks hkr hfo (by simpa using e2) hkeys
          cases fo with
          | some i =>
            simp only [Option.map_eq_some_iff] at hH
            obtain ⟨en, hen, rfl⟩ := hH
            have hlt : i < arr.size := by rw [e2]; exact (List.getElem?_eq_some_iff.1 hen).1
            have hai : arr[i]? = some arr[i] := Array.getElem?_eq_getElem hlt
            obtain ⟨g1, g2, g3⟩ := e3 i en arr[i] hen hai
            have r6 := run_stays (P := P) hks hkr g1 (findK_eq hfo hen) w
            obtain ⟨s1, s2⟩ := set_rel e2 e3 i (stripAll (s.arg k'), stripAll (s.arg x'), en.2.2) (fun e => { e with key := kv, val := xv }) (fun e0 he0 => by
              rw [hai] at he0; cases he0
              exact ⟨stripAll_rel hkr, stripAll_rel hxr, g3⟩)
            have h1 := h.setMap (clock' := clock) hg hb e1 s1 s2
            obtain ⟨om', h2⟩ := h1.putd hd none (.plain (.junk undef) (.of fun _ e => by cases e)) (fun b hb => by cases hb)
            have r6' : (Instr.keyThatStays arr[i].key kv).run P w = .ok kv w := r6
            exact ⟨undef, _, _, _, om', .inr ⟨hrunop (by simp [Instr.mapUpdate, run_underlying hu, run_getObj_at e1, r4, r5, hai, r6', run_setObj_put e1]), rfl⟩, h2⟩
          | none =>
            simp only [Option.some.injEq] at hH
            subst hH
            obtain ⟨s1, s2⟩ := push_rel e2 e3 (stripAll (s.arg k'), stripAll (s.arg x'), clock) { key := kv, val := xv, born := clock } ⟨stripAll_rel hkr, stripAll_rel hxr, rfl⟩
            have h1 := h.setMap (clock' := clock + 1) hg hb e1 s1 s2
            obtain ⟨om', h2⟩ := h1.putd hd none (.plain (.junk undef) (.of fun _ e => by cases e)) (fun b hb => by cases hb)
            exact ⟨undef, _, _, _, om', .inr ⟨hrunop (by simp [Instr.mapUpdate, run_underlying hu, run_getObj_at e1, r4, r5, run_setObj_put e1]), rfl⟩, h2⟩
      · cases hH
    · cases hH
  · cases hH

theorem findIdx_rel {es : List (PV × PV × Nat)} {l : List MapEntry} (hl : l.length = es.length) (hr : ∀ (i : Nat) (kv : PV × PV × Nat) (e : MapEntry), es[i]? = some kv → l[i]? = some e → e.born = kv.2.2) (b : Int) :
    l.findIdx? (fun e => ((e.born : Nat) : Int) == b) = es.findIdx? fun e => ((e.2.2 : Nat) : Int) == b := by
  induction l generalizing es with
  | nil => match es, hl with | [], _ => rfl
  | cons x l ih =>
    match es, hl with
    | y :: es, hl =>
      have g := hr 0 y x rfl rfl
      rw [List.findIdx?_cons, List.findIdx?_cons, g, ih (by simpa using hl) (fun i kv e hi he => hr (i + 1) kv e (by simpa using hi) (by simpa using he))]

theorem done_mstore (h : Rel E s bl π om a w) {o : Oper} {t : TypeId} {m st x : Operand} {m' st' x' : Arg} (ho : o.op = .entryStore t m st x)
    (hm : argOf m = some m') (hst : argOf st = some st') (hx : argOf x = some x') (hd : ∀ t, o.dst = some t → t < E.n) (hp : (PO.mstore m' st' x').step o.dst s = some s') : Done P E s' a w o := by
  simp only [PO.step, Option.map_eq_some_iff] at hp
  obtain ⟨H, hH, rfl⟩ := hp
  have hmr := h.arg hm
  have hsr := h.arg hst
  have hxr := h.arg hx
  generalize hmv : a.eval m = mv at hmr
  generalize hsv : a.eval st = sv at hsr
  generalize hxv : a.eval x = xv at hxr
  unfold mstorePV at hH
  split at hH
  · rename_i id _ born hqa hqs
    rw [hqa] at hmr
    rw [hqs] at hsr
    cases hsr
    split at hH
    · rename_i clock es hg
      split at hH
      · simp only [Option.bind_eq_some_iff, Option.map_eq_some_iff] at hH
        obtain ⟨i, hi, en, hen, rfl⟩ := hH
        cases hmr with
        | map hb =>
          rename_i b
          obtain ⟨arr, e1, e2, e3⟩ := h.mapObj hg hb
          have hlt : i < arr.size := by rw [e2]; exact (List.getElem?_eq_some_iff.1 hen).1
          have hai : arr[i]? = some arr[i] := Array.getElem?_eq_getElem hlt
          obtain ⟨g1, g2, g3⟩ := e3 i en arr[i] hen hai
          obtain ⟨s1, s2⟩ := set_rel e2 e3 i (en.1, stripAll (s.arg x'), en.2.2) (fun e => { e with val := xv }) (fun e0 he0 => by
            rw [hai] at he0; cases he0
            exact ⟨g1, stripAll_rel hxr, g3⟩)
          have h1 := h.setMap (clock' := clock) hg hb e1 s1 s2
          obtain ⟨om', h2⟩ := h1.putd hd none (.plain (.junk undef) (.of fun _ e => by cases e)) (fun b hb => by cases hb)
          have hfi : arr.findIdx? (fun e => ((e.born : Nat) : Int) == born) = some i := by
            have := findIdx_rel (l := arr.toList) (by simpa using e2) (fun i kv e hi he => (e3 i kv e hi (by simpa using he)).2.2) born
            rw [hi] at this
            clear e1 e2 e3 hlt hai g1 g2 g3 s1 s2 h1 h2
            obtain ⟨l⟩ := arr
            simpa using this
          exact ⟨undef, _, _, _, om', .inr ⟨by simp [execOp, ho, hmv, hsv, hxv, Instr.entryStore, run_getObj_at e1, asInt, asIntOf, hfi, run_setObj_put e1], rfl⟩, h2⟩
      · cases hH
    · cases hH
  · cases hH

/-- The elements of a made slice. -/
theorem flatten_replicate {z : List PV} (n : Nat) (i : Nat) (hz : z ≠ []) (hi : i < n * z.length) : (List.replicate n z).flatten[i]? = z[i % z.length]? := by
  induction n generalizing i with
  | zero => simp at hi
  | succ n ih =>
    rw [List.replicate_succ, List.flatten_cons]
    have hp : 0 < z.length := List.length_pos_iff.2 hz
    by_cases h : i < z.length
    · rw [List.getElem?_append_left h, Nat.mod_eq_of_lt h]
    · rw [List.getElem?_append_right (by omega), ih (i - z.length) (by rw [Nat.add_mul] at hi; omega)]
      rw [← Nat.mod_eq_sub_mod (by omega)]

theorem wrap64 {n : Int} (h1 : 0 ≤ n) (h2 : n ≤ 9223372036854775807) : IntKind.i64.wrap n = n := by
  have e : IntKind.i64.wrap n = if 9223372036854775808 ≤ n % 18446744073709551616 then n % 18446744073709551616 - 18446744073709551616 else n % 18446744073709551616 := by
    unfold IntKind.wrap
    simp only [IntKind.signed, Bool.true_and, decide_eq_true_eq]
    rfl
  rw [e]
  split <;> omega

theorem done_mkslice (h : Rel E s bl π om a w) {o : Oper} {t e : TypeId} {j : TypeInfo} {z : List PV} {len cap : Operand} {l' c' : Arg} (ho : o.op = .makeSlice t len cap) (hu : P.underlying t = some (.slice e)) (hj : P.info? e = some j) (hz : zeroOf P e = some z) (hsz : j.size = z.length) (hs0 : j.size ≠ 0)
    (hl : argOf len = some l') (hc : argOf cap = some c') (hd : ∀ t, o.dst = some t → t < E.n) (hp : (PO.mkslice z j.bytes l' c').step o.dst s = some s') : Done P E s' a w o := by
  simp only [PO.step] at hp
  have hlr := h.arg hl
  have hcr := h.arg hc
  generalize hlv : a.eval len = lv at hlr
  generalize hcv : a.eval cap = cv at hcr
  split at hp
  · rename_i n m e1 e2
    split at hp
    · rename_i hcond
      obtain ⟨rfl, h0, h63, hbytes⟩ := hcond
      cases hp
      rw [e1] at hlr
      rw [e2] at hcr
      cases hlr
      cases hcr
      obtain ⟨i, v, hi, hv, hvl, hvr⟩ := zeroOf_rel hz
      rw [hj] at hi
      cases hi
      obtain ⟨n, rfl⟩ : ∃ k : Nat, n = k := ⟨n.toNat, by omega⟩
      simp only [Int.toNat_natCast] at *
      have hw := wrap64 h0 h63
      have hzne : z ≠ [] := fun e => hs0 (by rw [hsz, e]; rfl)
      have hbn : n * j.bytes ≤ 140737488355328 := by
        have : ((n * j.bytes : Nat) : Int) ≤ ((140737488355328 : Nat) : Int) := by rw [Int.natCast_mul]; exact hbytes
        exact Int.ofNat_le.1 this
      have hrun : (execOp a.eval o).run P w = .ok (.value (.slice (some ⟨w.heap.size, 0, none⟩) n n)) (w.alloc (.cells ((Array.range (n * j.size)).map (v.cells[· % v.cells.size]!)) e)) := by
        have t1 : ¬ (281474976710656 < (j.bytes : Int) * (n : Int)) := by
          have e1 : (j.bytes : Int) * (n : Int) = ((n * j.bytes : Nat) : Int) := by rw [Nat.mul_comm]; rfl
          rw [e1]
          have e2 : ((n * j.bytes : Nat) : Int) ≤ ((140737488355328 : Nat) : Int) := Int.ofNat_le.2 hbn
          generalize ((n * j.bytes : Nat) : Int) = q at e2
          omega
        have t2 : ¬ (roomBytes < n * j.bytes) := by
          have e1 : roomBytes = 140737488355328 := by decide
          rw [e1]
          generalize n * j.bytes = q at hbn
          omega
        have t3 : ¬ ((n : Int) < 0) := by omega
        have hw0 : IntKind.i64.wrap 0 = 0 := by decide
        by_cases hn : n = 0
        · subst hn
          simp [execOp, ho, hlv, hcv, Instr.makeSlice, run_underlying hu, asInt, asIntOf, typeInfo, hj, hw0, askRoom, sizeOf, newRow]
          rw [show Array.range 0 = #[] from by simp [Array.range], Array.map_empty, Array.map_empty]
        · have hne : n * j.size ≠ 0 := Nat.mul_ne_zero hn hs0
          simp [execOp, ho, hlv, hcv, Instr.makeSlice, run_underlying hu, asInt, asIntOf, typeInfo, hj, hw, t1, t2, t3, askRoom, sizeOf, zeroValue, hv, newRow]
          exact fun e0 => absurd e0 hne
      have h1 := h.newObj (.cells ((Array.range (n * j.size)).map (v.cells[· % v.cells.size]!)) e) (.cells (List.replicate n z).flatten) (fun w' hw' hcl hlt => ⟨_, e, hw', by simp [hsz], fun i p u hp hu => by
        have hi : i < n * z.length := by
          have := (List.getElem?_eq_some_iff.1 hp).1
          simpa using this
        rw [flatten_replicate n i hzne hi] at hp
        have hmod : i % z.length < v.cells.size := by rw [hvl]; exact Nat.mod_lt _ (List.length_pos_iff.2 hzne)
        have hu' : v.cells[i % z.length]? = some u := by
          rw [Array.getElem?_map] at hu
          have hr : (Array.range (n * j.size))[i]? = some i := by rw [hsz]; simp [hi]
          rw [hr] at hu
          simp only [Option.map_some, Option.some.injEq] at hu
          rw [← hu, hvl, Array.getElem!_eq_getD, Array.getD_eq_getD_getElem?, Array.getElem?_eq_getElem hmod]
          rfl
        obtain ⟨q1, q2⟩ := hvr w' (bl ++ [w.heap.size]) π _ p u hp hu'
        exact .plain q1 q2⟩)
      have hptr : VRel (w.alloc (.cells ((Array.range (n * j.size)).map (v.cells[· % v.cells.size]!)) e)) (bl ++ [w.heap.size]) π (.hsl s.H.length 0 n n) (.slice (some ⟨w.heap.size, 0, none⟩) n n) := .hsl (by rw [← h.len]; simp)
      obtain ⟨om', h2⟩ := h1.putd hd none (.plain hptr (.of fun _ e => by cases e)) (fun b hb => by cases hb)
      exact ⟨_, _, _, _, om', .inl hrun, h2⟩
    · cases hp
  · cases hp

theorem done_tobytes (h : Rel E s bl π om a w) {o : Oper} {sT dT e : TypeId} {x : Operand} {y : Arg} {p : PV} (ho : o.op = .convert sT dT x) (hs : P.underlying sT = some .string) (hu : P.underlying dT = some (.slice e)) (he : isByteT P e = true) (hy : argOf x = some y) (hd : ∀ t, o.dst = some t → t < E.n)
    (hp : (PO.tobytes y).val s = some p) : Done P E (s.set o.dst p) a w o := by
  have hue : P.underlying e = some (.int .u8) := by
    unfold isByteT at he
    split at he
    · assumption
    · cases he
  have hxr := h.arg hy
  generalize hxv : a.eval x = xv at hxr
  simp only [PO.val] at hp
  split at hp
  · rename_i b hb
    cases hp
    rw [hb] at hxr
    cases hxr
    have hrun := Lib.run_convert_string_bytes (P := P) w sT dT e b hs hu hue
    have hsz := Lib.bytesWorld_size w e b
    have hbel : Below w.heap.size w (Lib.bytesWorld w e b) := ⟨rfl, rfl, rfl, by omega, fun j hj => Lib.bytesWorld_at_old w e b j hj⟩
    have h1 := h.grow hbel
    have h2 := h1.prot (fun b' o' => b' = w.heap.size ∧ o' < b.size) (fun b' o' hS => by
      obtain ⟨rfl, _⟩ := hS
      exact ⟨not_live_new h, by omega, .inr (.inl h.fr.size), .inr (fun ℓ hℓ => by have := h.omlt ℓ _ hℓ; omega)⟩)
    have hlen : (b.toList.map fun c => PV.v (.int .u8 c.toNat)).length = b.size := by
      rw [List.length_map, ByteArray.toList_eq]
      rfl
    have hrel : VRel (Lib.bytesWorld w e b) bl (fun b' o' => π b' o' ∨ (b' = w.heap.size ∧ o' < b.size)) (.slc false (b.toList.map fun c => PV.v (.int .u8 c.toNat))) (.slice (some ⟨w.heap.size, 0, none⟩) b.size (grownCap w b.size 0 e)) := by
      by_cases hb0 : b.size = 0
      · have hnil : (b.toList.map fun c => PV.v (.int .u8 c.toNat)) = [] := List.length_eq_zero_iff.1 (hlen.trans hb0)
        rw [hnil, hb0]
        exact .slc0 (fun e => by cases e)
      · rw [← hlen]
        refine .slc (k := 1) (fun j c => .int .u8 (b.data.toList.getD j 0).toNat) (fun e => hb0 (by rw [← hlen, e]; rfl)) (by rw [hlen]; exact grownCap_ge _ _ _ _) (fun x hx => by
          obtain ⟨c, _, rfl⟩ := List.mem_map.1 hx; rfl) (fun j c hj hc => ?_) (fun j c x z hx hz => ?_)
        · rw [hlen] at hj
          have hc0 : c = 0 := by omega
          subst hc0
          exact ⟨.inr ⟨rfl, by omega⟩, kell_of (by simpa using Lib.bytesWorld_cell w e b j hj) (by
            have hsz : b.size ≤ (Lib.bytesCells w e b).size := by
              have := grownCap_ge w b.size 0 e
              simp [Lib.bytesCells]
            simp [World.frozen?, Lib.bytesWorld_at_new]
            omega)⟩
        · simp only [List.getElem?_map, Option.map_eq_some_iff] at hx
          obtain ⟨ch, hch, rfl⟩ := hx
          have hc0 : c = 0 := by
            have := (List.getElem?_eq_some_iff.1 hz).1
            simp [PV.cells] at this
            exact this
          subst hc0
          simp [PV.cells] at hz
          subst hz
          have : b.data.toList.getD j 0 = ch := by
            rw [ByteArray.toList_eq] at hch
            rw [List.getD_eq_getElem?_getD, hch]
            rfl
          rw [this]
          exact .v rfl
    obtain ⟨om', h3⟩ := h2.putd hd none (.plain hrel (.of fun xs e => by cases e)) (fun b hb => by cases hb)
    exact ⟨_, _, _, _, om', .inl (by simp [execOp, ho, hxv, hrun]), h3⟩
  · cases hp

end
end Go.Pi
/- An iterator's step. -/
namespace Go.Pi
open Go.RowKit Go.MapKept

section
variable {P : Program} {E : Ent} {s s' : St} {bl : List Nat} {π : Nat → Nat → Prop} {om : Loc → Option Nat} {a : Act} {w : World}

/-- An iterator's object is turned. -/
theorem Rel.setIter (h : Rel E s bl π om a w) {id b since last last' : Nat} {m : Option Nat} {seen seen' : List Nat} {mb : Option Nat} (hg : s.H[id]? = some (.miter m since seen last)) (hbl : bl[id]? = some b) (hw : w.heap[b]? = some (.mapIter mb since seen.toArray last))
    (hm : VRel w bl π (iterPV m) (.map mb)) :
    Rel E { s with H := s.H.set id (.miter m since seen' last') } bl π om a (w.putObj b (.mapIter mb since seen'.toArray last')) := by
  have hlt := (Array.getElem?_eq_some_iff.1 hw).1
  refine h.setObj hg hbl (by simp) (by simp) (by simp) rfl rfl rfl (fun b' hne => World.putObj_heap_other hne) (fun _ _ => rfl) h.inj ?_ ?_
  · intro ℓ q hq
    obtain ⟨⟨cs, t, h1⟩, h2⟩ := h.omw ℓ q hq
    have hne : q ≠ b := fun e => by rw [e, hw] at h1; cases h1
    exact ⟨⟨cs, t, by rw [World.putObj_heap_other hne]; exact h1⟩, h2⟩
  · intro hcell hlv hnl
    exact ⟨mb, World.putObj_heap_same hlt, hm.mono (fun _ _ h => h) (fun _ _ h => h) hcell⟩

theorem run_chooseNext (n : Nat) (hn : 0 < n) (w : World) : ∃ (j : Nat) (w1 : World), j < n ∧ (w1 = w ∨ w1 = w.drew) ∧ (choose (Question.mapNext n)).run P w = .ok j w1 := by
  by_cases hf : n ≤ 1
  · exact ⟨0, w, by omega, Or.inl rfl, by simp [choose, Sem.run, Question.forced, hf]⟩
  · exact ⟨_, w.drew, Nat.mod_lt _ (by omega), Or.inr rfl, by
      simp only [choose, Sem.run, Question.forced, decide_eq_true_eq, hf, if_false, Question.cut]
      rfl⟩

theorem done_mnext (h : Rel E s bl π om a w) {o : Oper} {it : Operand} {y : Arg} (ho : o.op = .next it false) (hy : argOf it = some y) (hd : ∀ t, o.dst = some t → t < E.n) (hok : NextOK s.H (s.arg y)) :
    ∃ r H', NextR s.H (s.arg y) r H' ∧ ∃ v w' om', (execOp a.eval o).run P w = .ok (.value v) w' ∧ Rel E (({ s with H := H' } : St).set o.dst r) bl π om' (a.put o.dst v) w' := by
  have hir := h.arg hy
  obtain ⟨id, hqa, hok⟩ := hok
  rw [hqa] at hir ⊢
  generalize hv : a.eval it = iv at hir
  cases hir with
  | ptr hb =>
    rename_i b
    rcases hok with ⟨since, l, st, hg⟩ | ⟨m, since, seen, last, clock, es, hg, hgm, hlast⟩
    · obtain ⟨mb, e1, e2⟩ := h.ob id _ b hg hb
      cases e2
      refine ⟨_, _, ⟨id, rfl, .inl ⟨since, l, st, hg, rfl, rfl⟩⟩, ?_⟩
      obtain ⟨om', h2⟩ := h.putd hd (p := .tup [.v (.bool false)]) (v := .tuple #[.bool false]) none (.plain (.tup rfl (fun j q u hq hu => by
        match j with
        | 0 => simp at hq hu; subst hq; subst hu; exact .v rfl
        | j + 1 => simp at hq)) (.of fun _ e => by cases e)) (fun b hb => by cases hb)
      exact ⟨_, w, om', by simp [execOp, ho, hv, Instr.next, run_getObj_at e1], h2⟩
    · obtain ⟨mb, e1, e2⟩ := h.ob id _ b hg hb
      cases e2 with
      | map hmb =>
        rename_i mb
        obtain ⟨arr, f1, f2, f3⟩ := h.mapObj hgm hmb
        -- what is asked of stamps
        have hbad : (!seen.toArray.isEmpty && !arr.isEmpty && arr.all (·.born ≥ last)) = false := by
          by_cases hs : seen = []
          · subst hs; simp
          · by_cases he : es = []
            · have : arr = #[] := by apply Array.eq_empty_of_size_eq_zero; rw [f2, he]; rfl
              subst this; simp
            · obtain ⟨e, hem, hel⟩ := hlast hs he
              obtain ⟨i, hi⟩ := List.mem_iff_getElem?.1 hem
              have hlt : i < arr.size := by rw [f2]; exact (List.getElem?_eq_some_iff.1 hi).1
              have g := (f3 i e arr[i] hi (Array.getElem?_eq_getElem hlt)).2.2
              have : arr.all (fun e => decide (e.born ≥ last)) = false := by
                rw [Array.all_eq_false]
                exact ⟨i, hlt, by rw [g]; simp; omega⟩
              simp [this]
        obtain ⟨cand, hcand⟩ : ∃ c, c = (if ((arr.filter fun e => !seen.toArray.contains e.born).filter (·.born < since)).isEmpty then #[none] else #[]) ++ (((arr.filter fun e => !seen.toArray.contains e.born).filter (·.born < since)) ++ ((arr.filter fun e => !seen.toArray.contains e.born).filter (·.born ≥ since))).map some := ⟨_, rfl⟩
        have cpos : ∀ old new : Array MapEntry, 0 < ((if old.isEmpty then #[none] else #[]) ++ (old ++ new).map some).size := by
          intro old new
          cases hc : old.isEmpty
          · have : old.size ≠ 0 := fun e => by simp [Array.isEmpty, e] at hc
            simp; omega
          · simp; omega
        have cnone : ∀ old new : Array MapEntry, none ∈ ((if old.isEmpty then #[none] else #[]) ++ (old ++ new).map some) → old.isEmpty = true := by
          intro old new hm
          cases hc : old.isEmpty
          · rw [hc] at hm; simp at hm
          · rfl
        have csome : ∀ (old new : Array MapEntry) (e : MapEntry), some e ∈ ((if old.isEmpty then #[none] else #[]) ++ (old ++ new).map some) → e ∈ old ∨ e ∈ new := by
          intro old new e hm
          cases hc : old.isEmpty <;> rw [hc] at hm <;> simpa using hm
        have hpos : 0 < cand.size := by
          rw [hcand]
          exact cpos _ _
        obtain ⟨j, w1, hj, hw1, hrun⟩ := run_chooseNext (P := P) cand.size hpos w
        have hb1 : Below w.heap.size w w1 := by
          rcases hw1 with rfl | rfl
          · exact Below.refl _ _
          · exact drew_below w
        have h1 := h.grow hb1
        have hheap : w1.heap = w.heap := by rcases hw1 with rfl | rfl <;> rfl
        have hcj : cand[j]? = some cand[j] := Array.getElem?_eq_getElem hj
        -- what was chosen
        have hmem : cand[j] ∈ cand := Array.getElem_mem hj
        generalize cand[j] = x at hcj hmem
        cases x with
        | none =>
          have hold : ((arr.filter fun e => !seen.toArray.contains e.born).filter (·.born < since)).isEmpty = true := by
            rw [hcand] at hmem
            exact cnone _ _ hmem
          refine ⟨_, _, ⟨id, rfl, .inr ⟨m, since, seen, last, clock, es, hg, hgm, .inl ⟨?_, rfl, rfl⟩⟩⟩, ?_⟩
          · intro e hem hlt
            obtain ⟨i, hi⟩ := List.mem_iff_getElem?.1 hem
            have hil : i < arr.size := by rw [f2]; exact (List.getElem?_eq_some_iff.1 hi).1
            have g := (f3 i e arr[i] hi (Array.getElem?_eq_getElem hil)).2.2
            rw [Array.isEmpty_iff, Array.filter_eq_empty_iff] at hold
            by_cases hc : e.2.2 ∈ seen
            · exact hc
            · have := hold arr[i] (by simp [g, hc])
              rw [g] at this
              simp at this
              omega
          · obtain ⟨om', h2⟩ := h1.putd hd (p := .tup [.v (.bool false)]) (v := .tuple #[.bool false]) none (.plain (.tup rfl (fun j q u hq hu => by
              match j with
              | 0 => simp at hq hu; subst hq; subst hu; exact .v rfl
              | j + 1 => simp at hq)) (.of fun _ e => by cases e)) (fun b hb => by cases hb)
            refine ⟨_, w1, om', ?_, h2⟩
            simp only [execOp, ho, hv, Instr.next, Sem.run_bind, run_getObj_at e1, run_getObj_at f1, Result.andThen_ok, hbad, Bool.false_eq_true, if_false]
            rw [← hcand]
            simp only [hrun, Result.andThen_ok, hcj, Sem.run_pure]
        | some e =>
          have hleft : e ∈ arr ∧ e.born ∉ seen := by
            rw [hcand] at hmem
            rcases csome _ _ _ hmem with he' | he' <;> rw [Array.mem_filter, Array.mem_filter] at he' <;> exact ⟨he'.1.1, by simpa using he'.1.2⟩
          obtain ⟨i, hi⟩ := Array.mem_iff_getElem?.1 hleft.1
          have hil : i < es.length := by rw [← f2]; exact (Array.getElem?_eq_some_iff.1 hi).1
          have hei : es[i]? = some es[i] := List.getElem?_eq_getElem hil
          obtain ⟨g1, g2, g3⟩ := f3 i es[i] e hei hi
          refine ⟨_, _, ⟨id, rfl, .inr ⟨m, since, seen, last, clock, es, hg, hgm, .inr ⟨es[i], List.getElem_mem hil, by rw [← g3]; exact hleft.2, rfl, rfl⟩⟩⟩, ?_⟩
          have e1' : w1.heap[b]? = some (.mapIter (some mb) since seen.toArray last) := by rw [hheap]; exact e1
          have h2 := h1.setIter (seen' := seen ++ [es[i].2.2]) (last' := clock) hg hb e1' (.map hmb)
          have hcell : ∀ b' o, π b' o → (w1.putObj b (.mapIter (some mb) since (seen ++ [es[i].2.2]).toArray clock)).kell ⟨b', o, none⟩ = w.kell ⟨b', o, none⟩ := fun b' o' hp' => by
            refine cell_of_block ((World.putObj_heap_other (fun e' => ?_)).trans (by rw [hheap]))
            subst e'
            exact (h.pr _ _ hp').1 ⟨id, _, hb, hg, by simp⟩
          obtain ⟨om', h3⟩ := h2.putd hd (p := .tup [.v (.bool true), es[i].1, es[i].2.1]) (v := .tuple #[.bool true, e.key, e.val]) none (.plain (.tup rfl (fun j q u hq hu => by
            match j with
            | 0 => simp at hq hu; subst hq; subst hu; exact .v rfl
            | 1 => simp at hq hu; subst hq; subst hu; exact g1.mono (fun _ _ h => h) (fun _ _ h => h) hcell
            | 2 => simp at hq hu; subst hq; subst hu; exact g2.mono (fun _ _ h => h) (fun _ _ h => h) hcell
            | j + 3 => simp at hq)) (.of fun _ e => by cases e)) (fun b hb => by cases hb)
          refine ⟨_, _, om', ?_, h3⟩
          have hset : (setObj b (.mapIter (some mb) since (seen.toArray.push e.born) clock)).run P w1 = .ok () (w1.putObj b (.mapIter (some mb) since (seen ++ [es[i].2.2]).toArray clock)) := by
            rw [run_setObj_put e1', g3]
            simp
          simp only [execOp, ho, hv, Instr.next, Sem.run_bind, run_getObj_at e1, run_getObj_at f1, Result.andThen_ok, hbad, Bool.false_eq_true, if_false]
          rw [← hcand]
          simp only [hrun, Result.andThen_ok, hcj, hset, Sem.run_bind, Sem.run_pure]

end
end Go.Pi
/- Every operation that is no call, by one word. -/
namespace Go.Pi
open Go.RowKit

section
variable {P : Program} {E : Ent} {s s' : St} {bl : List Nat} {π : Nat → Nat → Prop} {om : Loc → Option Nat} {a : Act} {w : World}

/-- An operation whose step is its value. -/
def PO.isVal : PO → Bool
  | .take _ | .alloc _ | .box _ | .loadT _ | .store .. | .storeT .. | .bslice .. | .append .. | .storeF .. | .mkmap | .mentry .. | .mstore .. | .mupd .. | .mrange .. | .mkslice .. => false
  | _ => true

theorem step_val {po : PO} (h : po.isVal = true) (d : Option Nat) (s : St) : po.step d s = (po.val s).map (s.set d) := by
  cases po <;> first | rfl | (simp [PO.isVal] at h)

theorem stepSound (h : Rel E s bl π om a w) {pures : List Nat} {ops : Array Oper} {o : Oper} {po : PO} (hc : compOp P pures ops o = some po) (hd : ∀ t, o.dst = some t → t < E.n) (hp : po.step o.dst s = some s') : Done P E s' a w o := by
  by_cases hv : po.isVal = true ∧ po.grows = false
  · rw [step_val hv.1] at hp
    simp only [Option.map_eq_some_iff] at hp
    obtain ⟨p, hp, rfl⟩ := hp
    exact done_val h hd (valSound h hv.2 hc hp)
  · replace hc := (compOp_spec hc).1
    have viaVal : ∀ {q : PO}, q.isVal = true → po = q → ∃ p, q.val s = some p ∧ s' = s.set o.dst p := fun {q} hq e => by
      subst e
      rw [step_val hq] at hp
      simp only [Option.map_eq_some_iff] at hp
      obtain ⟨p, hp, rfl⟩ := hp
      exact ⟨p, hp, rfl⟩
    unfold compOp0 at hc
    split at hc
    · -- move
      rename_i x ho
      split at hc
      · split at hc
        · cases hc; exact done_take h (.inl ho) hd hp
        · cases hc; simp [PO.isVal, PO.grows] at hv
      · simp only [Option.map_eq_some_iff] at hc
        obtain ⟨y, hy, rfl⟩ := hc
        simp [PO.isVal, PO.grows] at hv
    · -- assign
      rename_i x ho
      split at hc
      · split at hc
        · cases hc; exact done_take h (.inr ho) hd hp
        · cases hc; simp [PO.isVal, PO.grows] at hv
      · simp only [Option.map_eq_some_iff] at hc
        obtain ⟨y, hy, rfl⟩ := hc
        simp [PO.isVal, PO.grows] at hv
    · -- pick
      simp only [Option.bind_eq_bind, Option.bind_eq_some_iff] at hc
      obtain ⟨c', h1, x', h2, y', h3, hc⟩ := hc
      cases hc
      simp [PO.isVal, PO.grows] at hv
    · -- alloc
      rename_i t ho
      split at hc
      · simp only [Option.map_eq_some_iff] at hc
        obtain ⟨z, hz, rfl⟩ := hc
        obtain ⟨p, hp', rfl⟩ := viaVal (q := .allocF z.length) rfl rfl
        cases hp'
        exact done_allocF h ho hz hd
      · simp only [Option.map_eq_some_iff] at hc
        obtain ⟨z, hz, rfl⟩ := hc
        exact done_alloc h ho hz hd hp
    · -- box
      rename_i t x ho
      split at hc
      · simp only [Option.map_eq_some_iff] at hc
        obtain ⟨y, hy, rfl⟩ := hc
        obtain ⟨p, hp', rfl⟩ := viaVal (q := .boxF y) rfl rfl
        exact done_boxF h ho hy hd hp'
      · simp only [Option.map_eq_some_iff] at hc
        obtain ⟨y, hy, rfl⟩ := hc
        exact done_box h ho hy hd hp
    · -- load
      rename_i t x ho
      simp only [Option.bind_eq_bind, Option.bind_eq_some_iff] at hc
      obtain ⟨⟨k, g⟩, h1, y, h2, hc⟩ := hc
      split at hc
      · cases hc; simp [PO.isVal, PO.grows] at hv
      · split at hc
        · rename_i hs
          cases hc
          simp only [Bool.and_eq_true] at hs
          exact done_loadT h ho h1 hs.1 h2 hd hp
        · cases hc; simp [PO.isVal, PO.grows] at hv
    · -- store
      rename_i t p' x ho
      simp only [Option.bind_eq_bind, Option.bind_eq_some_iff] at hc
      obtain ⟨⟨k, g⟩, h1, y, h2, hc⟩ := hc
      split at hc
      · rename_i q hq
        simp only [Option.bind_eq_some_iff] at hc
        obtain ⟨z, h3, hc⟩ := hc
        cases hc
        have hpq : p' = .tmp q := by
          unfold opFz at hq
          split at hq
          · split at hq
            · cases hq; rfl
            · cases hq
          · cases hq
        subst hpq
        exact done_storeF h ho h1 h3 hd hp
      · split at hc
        · split at hc
          · rename_i hs
            cases hc
            exact done_storeT h ho h1 hs h2 hd hp
          · cases hc
            exact done_store (y := .t _) h ho h1 h2 rfl hd hp
        · simp only [Option.bind_eq_some_iff] at hc
          obtain ⟨z, h3, hc⟩ := hc
          cases hc
          exact done_store h ho h1 h2 h3 hd hp
    · simp only [Option.map_eq_some_iff] at hc
      obtain ⟨y, hy, rfl⟩ := hc
      simp [PO.isVal, PO.grows] at hv
    · split at hc
      · simp only [Option.bind_eq_bind, Option.bind_eq_some_iff] at hc
        obtain ⟨fd, hf, i, hi, hc⟩ := hc
        split at hc
        · cases hc
        · simp only [Option.bind_eq_some_iff] at hc
          obtain ⟨y, hy, hc⟩ := hc
          cases hc
          simp [PO.isVal, PO.grows] at hv
      · cases hc
    · split at hc
      · simp only [Option.bind_eq_bind, Option.bind_eq_some_iff] at hc
        obtain ⟨j, hj, hc⟩ := hc
        split at hc
        · cases hc
        · simp only [Option.bind_eq_some_iff] at hc
          obtain ⟨y, hy, z, hz, hc⟩ := hc
          cases hc
          simp [PO.isVal, PO.grows] at hv
      · simp only [Option.bind_eq_bind, Option.bind_eq_some_iff] at hc
        obtain ⟨j, hj, hc⟩ := hc
        split at hc
        · cases hc
        · simp only [Option.bind_eq_some_iff] at hc
          obtain ⟨y, hy, z, hz, hc⟩ := hc
          cases hc
          simp [PO.isVal, PO.grows] at hv
      · cases hc
    · split at hc
      · simp only [Option.bind_eq_bind, Option.bind_eq_some_iff] at hc
        obtain ⟨fd, hf, ⟨k, g⟩, hk, y, hy, hc⟩ := hc
        cases hc
        simp [PO.isVal, PO.grows] at hv
      · cases hc
    · split at hc
      · simp only [Option.bind_eq_bind, Option.bind_eq_some_iff] at hc
        obtain ⟨⟨k, g⟩, hk, y, hy, z, hz, hc⟩ := hc
        cases hc
        simp [PO.isVal, PO.grows] at hv
      · simp only [Option.bind_eq_bind, Option.bind_eq_some_iff] at hc
        obtain ⟨y, hy, z, hz, hc⟩ := hc
        cases hc
        simp [PO.isVal, PO.grows] at hv
      · cases hc
    · split at hc
      · simp only [Option.bind_eq_bind, Option.bind_eq_some_iff] at hc
        obtain ⟨z, hz, hc⟩ := hc
        split at hc
        · simp only [Option.bind_eq_some_iff] at hc
          obtain ⟨ps, hps, hc⟩ := hc
          cases hc
          simp [PO.isVal, PO.grows] at hv
        · cases hc
      · simp only [Option.bind_eq_bind, Option.bind_eq_some_iff] at hc
        obtain ⟨z, hz, j, hj, ps, hps, hc⟩ := hc
        cases hc
        simp [PO.isVal, PO.grows] at hv
      · cases hc
    · -- buildSlice
      rename_i t len parts ho
      split at hc
      · rename_i e hu
        simp only [Option.bind_eq_bind, Option.bind_eq_some_iff] at hc
        obtain ⟨j, hj, hc⟩ := hc
        split at hc
        · rename_i hcond
          simp only [Bool.and_eq_true, beq_iff_eq] at hcond
          obtain ⟨rfl, hpe⟩ := hcond
          cases hc
          obtain ⟨p, hp', rfl⟩ := viaVal (q := .nilsl) rfl rfl
          cases hp'
          exact done_nilsl h ho hu hj hpe hd
        · simp only [Option.bind_eq_some_iff] at hc
          obtain ⟨z, hz, hc⟩ := hc
          split at hc
          · rename_i hcond
            simp only [Bool.and_eq_true, beq_iff_eq, bne_iff_ne, ne_eq, decide_eq_true_eq] at hcond
            obtain ⟨⟨⟨⟨g1, g2⟩, g3⟩, g4⟩, g5⟩ := hcond
            simp only [Option.bind_eq_some_iff] at hc
            obtain ⟨ps, hps, hc⟩ := hc
            cases hc
            exact done_bslice h ho hu hj hz g1 g2 g3 g4 g5 hps hd hp
          · cases hc
      · cases hc
    · split at hc
      · simp only [Option.bind_eq_bind, Option.bind_eq_some_iff] at hc
        obtain ⟨j, hj, x', hx, lo', hlo, hi', hhi, mx', hmx, hc⟩ := hc
        cases hc
        simp [PO.isVal, PO.grows] at hv
      · split at hc
        · cases hc
        · simp only [Option.bind_eq_bind, Option.bind_eq_some_iff] at hc
          obtain ⟨x', hx, lo', hlo, hi', hhi, hc⟩ := hc
          cases hc
          simp [PO.isVal, PO.grows] at hv
      · cases hc
    · -- binOp
      rename_i op t x y yt ho
      have eqs : ∀ {q : PO}, 
          (match P.underlying t with
            | some (.int _) | some .string => do some (PO.bin op (← argOf x) (← argOf y))
            | some (.pointer e) => if P.cellsOf e == 0 then none else do some (PO.eqp (isNeq op) 0 (← argOf x) (← argOf y))
            | some (.map _ _) => do some (PO.eqp (isNeq op) 1 (← argOf x) (← argOf y))
            | some (.func _ _ _) => do some (PO.eqp (isNeq op) 2 (← argOf x) (← argOf y))
            | some .bool => do some (PO.eqb (isNeq op) (← argOf x) (← argOf y))
            | some (.struct _) | some (.array _ _) => do some (PO.eqv (isNeq op) (← flatTy P 20 t) (← argOf x) (← argOf y))
            | _ => none) = some q → q.isVal = true ∧ q.grows = false := by
        intro q hc
        split at hc
        · simp only [Option.bind_eq_bind, Option.bind_eq_some_iff] at hc
          obtain ⟨x', hx, y', hy, hc⟩ := hc
          cases hc; exact ⟨rfl, rfl⟩
        · simp only [Option.bind_eq_bind, Option.bind_eq_some_iff] at hc
          obtain ⟨x', hx, y', hy, hc⟩ := hc
          cases hc; exact ⟨rfl, rfl⟩
        · split at hc
          · cases hc
          · simp only [Option.bind_eq_bind, Option.bind_eq_some_iff] at hc
            obtain ⟨x', hx, y', hy, hc⟩ := hc
            cases hc; exact ⟨rfl, rfl⟩
        · simp only [Option.bind_eq_bind, Option.bind_eq_some_iff] at hc
          obtain ⟨x', hx, y', hy, hc⟩ := hc
          cases hc; exact ⟨rfl, rfl⟩
        · simp only [Option.bind_eq_bind, Option.bind_eq_some_iff] at hc
          obtain ⟨x', hx, y', hy, hc⟩ := hc
          cases hc; exact ⟨rfl, rfl⟩
        · simp only [Option.bind_eq_bind, Option.bind_eq_some_iff] at hc
          obtain ⟨x', hx, y', hy, hc⟩ := hc
          cases hc; exact ⟨rfl, rfl⟩
        · simp only [Option.bind_eq_bind, Option.bind_eq_some_iff] at hc
          obtain ⟨ks, hk, x', hx, y', hy, hc⟩ := hc
          cases hc; exact ⟨rfl, rfl⟩
        · simp only [Option.bind_eq_bind, Option.bind_eq_some_iff] at hc
          obtain ⟨ks, hk, x', hx, y', hy, hc⟩ := hc
          cases hc; exact ⟨rfl, rfl⟩
        · cases hc
      split at hc
      · exact absurd (eqs hc) hv
      · exact absurd (eqs hc) hv
      · simp only [Option.bind_eq_bind, Option.bind_eq_some_iff] at hc
        obtain ⟨x', hx, y', hy, hc⟩ := hc
        cases hc
        simp [PO.isVal, PO.grows] at hv
    · simp only [Option.map_eq_some_iff] at hc
      obtain ⟨y, hy, rfl⟩ := hc
      simp [PO.isVal, PO.grows] at hv
    · split at hc
      · simp only [Option.map_eq_some_iff] at hc
        obtain ⟨y, hy, rfl⟩ := hc
        simp [PO.isVal, PO.grows] at hv
      · simp only [Option.map_eq_some_iff] at hc
        obtain ⟨y, hy, rfl⟩ := hc
        simp [PO.isVal, PO.grows] at hv
      · rename_i hs hu
        split at hc
        · rename_i hbt
          simp only [Option.map_eq_some_iff] at hc
          obtain ⟨y, hy, rfl⟩ := hc
          obtain ⟨p, hp', rfl⟩ := viaVal (q := .tobytes y) rfl rfl
          exact done_tobytes h (by assumption) hs hu hbt hy hd hp'
        · cases hc
      · cases hc
    · simp only [Option.map_eq_some_iff] at hc
      obtain ⟨y, hy, rfl⟩ := hc
      simp [PO.isVal, PO.grows] at hv
    · split at hc
      · simp only [Option.map_eq_some_iff] at hc
        obtain ⟨l, hl, rfl⟩ := hc
        simp [PO.isVal, PO.grows] at hv
      · cases hc
    · -- call
      rename_i c ho
      split at hc
      · simp only [Option.map_eq_some_iff] at hc
        obtain ⟨l, hl, rfl⟩ := hc
        split at hp <;> simp [PO.step, PO.val] at hp
      · simp only [Option.bind_eq_bind, Option.bind_eq_some_iff] at hc
        obtain ⟨y, hy, l, hl, hc⟩ := hc
        cases hc
        simp [PO.step, PO.val] at hp
      · split at hc
        · split at hc
          · simp only [Option.map_eq_some_iff] at hc
            obtain ⟨y, hy, rfl⟩ := hc
            simp [PO.isVal, PO.grows] at hv
          · split at hc
            · simp only [Option.map_eq_some_iff] at hc
              obtain ⟨y, hy, rfl⟩ := hc
              simp [PO.isVal, PO.grows] at hv
            · split at hc
              · simp only [Option.map_eq_some_iff] at hc
                obtain ⟨y, hy, rfl⟩ := hc
                simp [PO.isVal, PO.grows] at hv
              · cases hc
        · cases hc
      · rename_i hcal
        split at hc
        · rename_i t u x y hts hargs
          split at hc
          · rename_i e hu
            simp only [Option.bind_eq_bind, Option.bind_eq_some_iff] at hc
            obtain ⟨j, hj, z, hz, hc⟩ := hc
            split at hc
            · rename_i hcond
              simp only [Bool.and_eq_true, beq_iff_eq, bne_iff_ne, ne_eq] at hcond
              obtain ⟨⟨g1, g2⟩, g3⟩ := hcond
              subst g1
              simp only [Option.bind_eq_some_iff] at hc
              obtain ⟨y', hy, hc⟩ := hc
              cases hc
              exact done_append h ho hcal hts hargs hu hj hz g3 g2 hy hd hp
            · cases hc
          · cases hc
        · cases hc
      · simp only [Option.map_eq_some_iff] at hc
        obtain ⟨l, hl, rfl⟩ := hc
        simp [PO.isVal, PO.grows] at hv
      · simp only [Option.map_eq_some_iff] at hc
        obtain ⟨l, hl, rfl⟩ := hc
        simp [PO.isVal, PO.grows] at hv
      · cases hc
    · -- makeMap
      rename_i ho
      cases hc
      simp only [PO.step, Option.some.injEq] at hp
      subst hp
      exact done_mkmap h ho hd
    · -- lookup
      split at hc
      · simp only [Option.bind_eq_bind, Option.bind_eq_some_iff] at hc
        obtain ⟨ks, hks, z, hz, m', hm, k', hk, hc⟩ := hc
        cases hc
        simp [PO.isVal, PO.grows] at hv
      · cases hc
    · -- mapEntry
      rename_i t m k ho
      split at hc
      · rename_i kt e hu
        simp only [Option.bind_eq_bind, Option.bind_eq_some_iff] at hc
        obtain ⟨ks, hks, z, hz, m', hm, k', hk, hc⟩ := hc
        cases hc
        exact done_mentry h ho hu hks hz hm hk hd hp
      · cases hc
    · -- entryStore
      rename_i t m st x ho
      simp only [Option.bind_eq_bind, Option.bind_eq_some_iff] at hc
      obtain ⟨m', hm, k', hk, x', hx, hc⟩ := hc
      cases hc
      exact done_mstore h ho hm hk hx hd hp
    · -- mapUpdate
      rename_i t m k x ho
      split at hc
      · rename_i kt e hu
        simp only [Option.bind_eq_bind, Option.bind_eq_some_iff] at hc
        obtain ⟨ks, hks, m', hm, k', hk, x', hx, hc⟩ := hc
        cases hc
        exact done_mupd h (.inl ho) hu hks hm hk hx hd hp
      · cases hc
    · -- insert
      rename_i t m k x ho
      split at hc
      · rename_i kt e hu
        simp only [Option.bind_eq_bind, Option.bind_eq_some_iff] at hc
        obtain ⟨ks, hks, m', hm, k', hk, x', hx, hc⟩ := hc
        cases hc
        exact done_mupd h (.inr ho) hu hks hm hk hx hd hp
      · cases hc
    · -- range
      rename_i t x ho
      split at hc
      · rename_i hm
        simp only [Option.map_eq_some_iff] at hc
        obtain ⟨y, hy, rfl⟩ := hc
        exact done_mrange h ho hm hy hd hp
      · cases hc
    · -- next
      simp only [Option.map_eq_some_iff] at hc
      obtain ⟨y, hy, rfl⟩ := hc
      simp [PO.step, PO.val] at hp
    · -- entry
      simp only [Option.map_eq_some_iff] at hc
      obtain ⟨y, hy, rfl⟩ := hc
      simp [PO.isVal, PO.grows] at hv
    · -- makeSlice
      rename_i t len cap ho
      split at hc
      · rename_i e hu
        simp only [Option.bind_eq_bind, Option.bind_eq_some_iff] at hc
        obtain ⟨j, hj, z, hz, hc⟩ := hc
        split at hc
        · rename_i hcond
          simp only [Bool.and_eq_true, beq_iff_eq, bne_iff_ne, ne_eq] at hcond
          simp only [Option.bind_eq_some_iff] at hc
          obtain ⟨l', hl, c', hcc, hc⟩ := hc
          cases hc
          exact done_mkslice h ho hu hj hz hcond.1 hcond.2 hl hcc hd hp
        · cases hc
      · cases hc
    · cases hc

end
end Go.Pi
/- What a call comes to, told over abstract states. -/
namespace Go.Pi
open Go.RowKit

/-- Objects and memory, at a call's begin or end; O: blocks that objects' slices own. -/
structure HRel (w : World) (bl : List Nat) (π : Nat → Nat → Prop) (O : Nat → Prop) (H : List PObj) : Prop where
  len : bl.length = H.length
  nd : bl.Nodup
  lt : ∀ b ∈ bl, b < w.heap.size
  ob : ∃ om : Nat → Nat → Option Nat, (∀ i o i' o' b, om i o = some b → om i' o' = some b → i = i' ∧ o = o') ∧
    (∀ i o b, om i o = some b → O b ∧ (∃ cs t, w.heap[b]? = some (.cells cs t (0, 0))) ∧ ¬ Live bl H b) ∧ (∀ i o, H.length ≤ i → om i o = none) ∧ (∀ b, O b → ∃ i o, om i o = some b) ∧
    ∀ (id : Nat) (o : PObj) (b : Nat), H[id]? = some o → bl[id]? = some b → ORel (fun off => LRel w bl π H (om id off)) (VRel w bl π) w b o
  pr : ∀ b o, π b o → ¬ Live bl H b ∧ b < w.heap.size

def ArgsRel (w : World) (bl : List Nat) (π : Nat → Nat → Prop) (ps : List PV) (vs : Array Value) : Prop :=
  vs.size = ps.length ∧ ∀ (i : Nat) (z : PV) (u : Value), ps[i]? = some z → vs[i]? = some u → VRel w bl π z u

/-- What a call hands back, be it of a Go function or of one of the model's own. -/
def CallRes (P : Program) (f : FuncId) (args : Array Value) (w : World) (Q : Value → World → Prop) : Prop :=
  ((callFunc f args).run P w = .ok (.enter f args) w ∧ Calls P f args w fun e w' => ∃ v, e = .returned v ∧ Q v w') ∨
  ∃ v w', (callFunc f args).run P w = .ok (.value v) w' ∧ Q v w'

theorem CallRes.mono {P : Program} {f : FuncId} {args : Array Value} {w : World} {Q Q' : Value → World → Prop} (h : CallRes P f args w Q) (hq : ∀ v w', Q v w' → Q' v w') : CallRes P f args w Q' := by
  rcases h with ⟨h1, h2⟩ | ⟨v, w', h1, h2⟩
  · exact .inl ⟨h1, h2.mono fun e w' ⟨v, he, hv⟩ => ⟨v, he, hq v w' hv⟩⟩
  · exact .inr ⟨v, w', h1, hq v w' h2⟩

/-- Behind a call: a value and objects, and what has stayed. -/
def After (w : World) (bl : List Nat) (π : Nat → Nat → Prop) (O : Nat → Prop) (H : List PObj) (R : PV → List PObj → Prop) (v : Value) (w' : World) : Prop :=
  ∃ r H' bl' π' O', R r H' ∧ VRel w' bl' π' r v ∧ HRel w' bl' π' O' H' ∧ (∀ b, O' b → O b ∨ w.heap.size ≤ b) ∧ Frame' w bl π O H w' bl' π' H'

theorem After.mono {w : World} {bl : List Nat} {π : Nat → Nat → Prop} {O : Nat → Prop} {H : List PObj} {R R' : PV → List PObj → Prop} {v : Value} {w' : World} (h : After w bl π O H R v w') (hr : ∀ r H', R r H' → R' r H') : After w bl π O H R' v w' := by
  obtain ⟨r, H', bl', π', O', a, b⟩ := h
  exact ⟨r, H', bl', π', O', hr r H' a, b⟩

/-- A call of f, told. -/
def Sum (P : Program) (f : FuncId) (args : List PV) (H : List PObj) (R : PV → List PObj → Prop) : Prop :=
  ∀ (w : World) (bl : List Nat) (π : Nat → Nat → Prop) (O : Nat → Prop) (cargs : Array Value), HRel w bl π O H → ArgsRel w bl π args cargs → CallRes P f cargs w (After w bl π O H R)

theorem Sum.mono {P : Program} {f : FuncId} {args : List PV} {H : List PObj} {R R' : PV → List PObj → Prop} (h : Sum P f args H R) (hr : ∀ r H', R r H' → R' r H') : Sum P f args H R' :=
  fun w bl π O cargs h1 h2 => (h w bl π O cargs h1 h2).mono fun _ _ h => h.mono hr

/-- A call of f that only reckons: it hands back r, and turns nothing. -/
def Pure (P : Program) (f : FuncId) (args : List PV) (r : PV) : Prop :=
  ∀ (w : World) (bl : List Nat) (π : Nat → Nat → Prop) (cargs : Array Value), bl.Nodup → (∀ b ∈ bl, b < w.heap.size) → (∀ b o, π b o → b < w.heap.size) → ArgsRel w bl π args cargs →
    CallRes P f cargs w fun v w' => ∃ π', VRel w' bl π' r v ∧ Below w.heap.size w w' ∧ (∀ b o, π b o → π' b o) ∧ ∀ b o, π' b o → (π b o ∨ w.heap.size ≤ b) ∧ b < w'.heap.size

/-- A value without a way to an object. -/
inductive RefFree : PV → Prop
  | junk : RefFree .junk
  | fb (k : Nat) : RefFree (.fb k)
  | v (x : Value) : RefFree (.v x)
  | slc {o : Bool} {xs : List PV} (h : ∀ x ∈ xs, RefFree x) : RefFree (.slc o xs)
  | ept {cs : List PV} {off : Nat} (h : ∀ x ∈ cs, RefFree x) : RefFree (.ept cs off)
  | clo {f : Nat} {cs : List PV} (h : ∀ x ∈ cs, RefFree x) : RefFree (.clo f cs)
  | ifc {t : Nat} {x : PV} (h : RefFree x) : RefFree (.ifc t x)
  | agg {cs : List PV} (h : ∀ x ∈ cs, RefFree x) : RefFree (.agg cs)
  | tup {cs : List PV} (h : ∀ x ∈ cs, RefFree x) : RefFree (.tup cs)

theorem RefFree.cells {p : PV} (h : RefFree p) : ∀ z ∈ p.cells, RefFree z := by
  cases h with
  | agg h => exact h
  | _ => intro z hz; simp [PV.cells] at hz; subst hz; first | exact .junk | exact .fb _ | exact .v _ | exact .slc (by assumption) | exact .ept (by assumption) | exact .clo (by assumption) | exact .ifc (by assumption) | exact .tup (by assumption)

theorem VRel.anyBlocks {w : World} {bl : List Nat} {π : Nat → Nat → Prop} {p : PV} {v : Value} (h : VRel w bl π p v) (hf : RefFree p) (bl' : List Nat) : VRel w bl' π p v := by
  induction h with
  | junk v => exact .junk v
  | fb k v => exact .fb k v
  | yld h => cases hf
  | v h => exact .v h
  | ptr h => cases hf
  | map h => cases hf
  | hsl h => cases hf
  | slc0 h => exact .slc0 h
  | slc cv hne hcap hk hc hr ih =>
    cases hf with
    | slc hf => exact .slc cv hne hcap hk hc (fun j c x z hx hz => ih j c x z hx hz ((hf x (List.mem_of_getElem? hx)).cells z (List.mem_of_getElem? hz)))
  | ept cv hc hr ih =>
    cases hf with
    | ept hf => exact .ept cv hc (fun c z hz => ih c z hz (hf z (List.mem_of_getElem? hz)))
  | clo hl hr ih =>
    cases hf with
    | clo hf => exact .clo hl (fun i z u hz hu => ih i z u hz hu (hf z (List.mem_of_getElem? hz)))
  | ifc h ih =>
    cases hf with
    | ifc hf => exact .ifc (ih hf)
  | agg hl hr ih =>
    cases hf with
    | agg hf => exact .agg hl (fun i z u hz hu => ih i z u hz hu (hf z (List.mem_of_getElem? hz)))
  | tup hl hr ih =>
    cases hf with
    | tup hf => exact .tup hl (fun i z u hz hu => ih i z u hz hu (hf z (List.mem_of_getElem? hz)))

section
variable {P : Program} {E : Ent} {s : St} {bl : List Nat} {π : Nat → Nat → Prop} {om : Loc → Option Nat} {a : Act} {w : World}

def ownC (om : Loc → Option Nat) (b : Nat) : Prop := ∃ id off, om (.c id off) = some b

theorem Rel.toH (h : Rel E s bl π om a w) : HRel w bl π (ownC om) s.H where
  len := h.len
  nd := h.nd
  lt := h.lt
  ob := ⟨fun id off => om (.c id off), fun i o i' o' b h1 h2 => by have := h.inj _ _ b h1 h2; cases this; exact ⟨rfl, rfl⟩, fun i o b hb => ⟨⟨i, o, hb⟩, (h.omw _ _ hb).1, (h.omw _ _ hb).2.2⟩, fun i o hi => h.omc i o hi, fun b ⟨i, o, hb⟩ => ⟨i, o, hb⟩, fun id o b ho hb => h.ob id o b ho hb⟩
  pr := h.pr

theorem Frame'.live {w w' : World} {bl bl' : List Nat} {π π' : Nat → Nat → Prop} {O : Nat → Prop} {H H' : List PObj} (h : Frame' w bl π O H w' bl' π' H') (hl : bl.length = H.length) {b : Nat} (hb : b < w.heap.size) (hL : Live bl' H' b) : Live bl H b := by
  obtain ⟨id, o, h1, h2, h3⟩ := hL
  by_cases hid : id < bl.length
  · have e1 : bl[id]? = some bl[id] := List.getElem?_eq_getElem hid
    have e2 := h.pre id _ e1
    rw [h1] at e2
    obtain ⟨q, hq⟩ : ∃ q, H[id]? = some q := ⟨_, List.getElem?_eq_getElem (by omega)⟩
    refine ⟨id, q, by rw [e1, ← e2], hq, fun e => ?_⟩
    subst e
    have := h.dead id hq
    rw [h2] at this
    exact h3 (Option.some.inj this)
  · have := h.new id b h1 (by omega)
    omega

/-- What is owned later was owned before or is new. -/
def OwnGrow (w : World) (O O' : Nat → Prop) : Prop := ∀ b, O' b → O b ∨ w.heap.size ≤ b

theorem Frame'.trans {w w1 w2 : World} {bl bl1 bl2 : List Nat} {π π1 π2 : Nat → Nat → Prop} {O O1 : Nat → Prop} {H H1 H2 : List PObj} (h : Frame' w bl π O H w1 bl1 π1 H1) (k : Frame' w1 bl1 π1 O1 H1 w2 bl2 π2 H2) (hl : bl.length = H.length) (ho : OwnGrow w O O1) : Frame' w bl π O H w2 bl2 π2 H2 where
  os := k.os.trans h.os
  tape := k.tape.trans h.tape
  output := k.output.trans h.output
  size := Nat.le_trans h.size k.size
  pre := fun i b hi => k.pre i b (h.pre i b hi)
  new := fun i b hi hle => by
    by_cases hlt : i < bl1.length
    · have e1 : bl1[i]? = some bl1[i] := List.getElem?_eq_getElem hlt
      have e2 := k.pre i _ e1
      rw [hi] at e2
      cases e2
      exact h.new i _ e1 hle
    · have := k.new i b hi (by omega)
      have := h.size
      omega
  sub := fun b o hp => k.sub b o (h.sub b o hp)
  fresh := fun b o hp => by
    rcases k.fresh b o hp with hp | hp | hp
    · exact h.fresh b o hp
    · have := h.size; exact .inr (.inl (by omega))
    · rcases ho b hp with hp | hp
      · exact .inr (.inr hp)
      · exact .inr (.inl hp)
  block := fun b hb hL hO => (k.block b (Nat.lt_of_lt_of_le hb h.size) (fun hL' => hL (h.live hl hb hL')) (fun hO' => by
    rcases ho b hO' with hO' | hO'
    · exact hO hO'
    · omega)).trans (h.block b hb hL hO)
  dead := fun id hid => k.dead id (h.dead id hid)
  cell := fun b o hp => (k.cell b o (h.sub b o hp)).trans (h.cell b o hp)

/-- Behind a call. -/
theorem Rel.called (h : Rel E s bl π om a w) {w' : World} {bl' : List Nat} {π' : Nat → Nat → Prop} {O' : Nat → Prop} {H' : List PObj} {r : PV} {v : Value} {d : Option Nat} (hd : ∀ t, d = some t → t < E.n)
    (hv : VRel w' bl' π' r v) (hH : HRel w' bl' π' O' H') (hO : OwnGrow w (ownC om) O') (hF : Frame' w bl π (ownC om) s.H w' bl' π' H') : ∃ om', Rel E (({ s with H := H' } : St).set d r.strip) bl' π' om' (a.put d v) w' := by
  have hblk : ∀ b, b < w.heap.size → ¬ Live bl s.H b → ¬ ownC om b → w'.heap[b]? = w.heap[b]? := fun b hb hL hC => hF.block b hb hL hC
  have ownE : ∀ b, ownC om b → E.w.heap.size ≤ b ∨ E.O b := fun b ⟨id, off, hb⟩ => (h.omw _ _ hb).2.1
  have cellsOwn : ∀ b, ownC om b → ∃ cs t, w.heap[b]? = some (.cells cs t (0, 0)) := fun b ⟨id, off, hb⟩ => (h.omw _ _ hb).1
  have hpc : ∀ b o, π b o → w'.kell ⟨b, o, none⟩ = w.kell ⟨b, o, none⟩ := hF.cell
  obtain ⟨om2, k1, k2, k3, _, k4⟩ := hH.ob
  have tnot : ∀ t b, om (.t t) = some b → ¬ ownC om b := fun t b ht ⟨id, off, hb⟩ => by have := h.inj _ _ b ht hb; cases this
  have tnot2 : ∀ t b, om (.t t) = some b → ¬ O' b := fun t b ht hb => by
    rcases hO b hb with hb | hb
    · exact tnot t b ht hb
    · have := h.omlt _ _ ht; omega
  have h1 : Rel E ({ s with H := H' } : St) bl' π' (fun ℓ => match ℓ with | .t n => om (.t n) | .c i o => om2 i o) a w' := {
    dfr := h.dfr.move (fun D hD => by
        obtain ⟨i, hi⟩ := List.mem_iff_getElem?.1 hD
        by_cases hlt : i < bl.length
        · have e1 : bl[i]? = some bl[i] := List.getElem?_eq_getElem hlt
          have e2 := hF.pre i _ e1
          rw [hi] at e2
          cases e2
          exact .inl (List.mem_of_getElem? e1)
        · exact .inr (hF.new i D hi (by omega)))
      (fun D hD hw => (hblk D (Array.getElem?_eq_some_iff.1 hw).1 (fun ⟨id, o, hb, _, _⟩ => hD (List.mem_of_getElem? hb)) (fun hC => by obtain ⟨cs, t, hc⟩ := cellsOwn D hC; rw [hw] at hc; cases hc)).trans hw)
    sz := h.sz
    tm := fun t => (h.tm t).move hF.pre hF.sub hpc (fun b hob hL hlt => ⟨hblk b hlt hL (tnot t b hob), fun hL' => hL (hF.live h.len hlt hL'), fun o hp => by
      rcases hF.fresh b o hp with hp | hp | hp
      · exact hp
      · omega
      · exact absurd hp (tnot t b hob)⟩)
    len := hH.len
    nd := hH.nd
    lt := hH.lt
    ob := k4
    pr := hH.pr
    inj := fun ℓ ℓ' b h1 h2 => by
      cases ℓ with
      | t n => cases ℓ' with
        | t n' => exact h.inj _ _ b h1 h2
        | c i o => exact absurd (k2 _ _ _ h2).1 (tnot2 n b h1)
      | c i o => cases ℓ' with
        | t n' => exact absurd (k2 _ _ _ h1).1 (tnot2 n' b h2)
        | c i' o' => obtain ⟨rfl, rfl⟩ := k1 _ _ _ _ b h1 h2; rfl
    omw := fun ℓ b hb => by
      cases ℓ with
      | t n =>
        obtain ⟨⟨cs, t, g1⟩, g2, g3⟩ := h.omw _ _ hb
        exact ⟨⟨cs, t, (hblk b (h.omlt _ _ hb) g3 (tnot n b hb)).trans g1⟩, g2, fun hL => g3 (hF.live h.len (h.omlt _ _ hb) hL)⟩
      | c i o =>
        obtain ⟨g1, g2, g3⟩ := k2 _ _ _ hb
        refine ⟨g2, ?_, g3⟩
        rcases hO b g1 with g1 | g1
        · exact ownE b g1
        · exact .inl (Nat.le_trans h.fr.size g1)
    omc := fun id off hid => k3 id off hid
    fr := h.fr.trans hF h.el (fun b hb => by
      rcases ownE b hb with h | h
      · exact .inr h
      · exact .inl h)
    el := h.el }
  exact h1.putd hd none (.plain hv.strip (PV.strip_ne _)) (fun b hb => by cases hb)

theorem Rel.pcalled (h : Rel E s bl π om a w) {w' : World} {π' : Nat → Nat → Prop} {r : PV} {v : Value} {d : Option Nat} (hd : ∀ t, d = some t → t < E.n)
    (hv : VRel w' bl π' r v) (hb : Below w.heap.size w w') (hnew : ∀ b o, π' b o → (π b o ∨ w.heap.size ≤ b) ∧ b < w'.heap.size) :
    ∃ om' π', Rel E (s.set d r.strip) bl π' om' (a.put d v) w' := by
  have h1 := h.grow hb
  have h2 := h1.prot π' (fun b o hp => by
    obtain ⟨g1, g2⟩ := hnew b o hp
    rcases g1 with g1 | g1
    · exact ⟨(h.pr b o g1).1, g2, h.fr.fresh b o g1, .inl g1⟩
    · refine ⟨?_, g2, .inr (.inl (Nat.le_trans h.fr.size g1)), .inr (fun ℓ hℓ => by have := h.omlt ℓ b hℓ; omega)⟩
      rintro ⟨id, q, hbl, _, _⟩
      have := h.lt b (List.mem_of_getElem? hbl)
      omega)
  have hv' : VRel w' bl (fun b o => π b o ∨ π' b o) r v := hv.mono (fun _ _ h => h) (fun _ _ h => .inr h) (fun _ _ _ => rfl)
  obtain ⟨om', h3⟩ := h2.putd hd none (.plain hv'.strip (PV.strip_ne _)) (fun b hb => by cases hb)
  exact ⟨om', _, h3⟩

end

theorem Pure.of_sum0 {P : Program} {f : Nat} {args : List PV} {r : PV} (h : Sum P f args [] fun r' _ => r' = r) (hf : RefFree r) (ha : ∀ x ∈ args, RefFree x) : Pure P f args r := by
  intro w bl π cargs hnd hlt hpr hargs
  have hnl : ∀ b, ¬ Live [] [] b := by rintro b ⟨id, o, h1, _⟩; simp at h1
  refine (h w [] π (fun _ => False) cargs { len := rfl, nd := by simp, lt := by simp, ob := ⟨fun _ _ => none, by simp, by simp, by simp, by simp, fun id o b ho => by simp at ho⟩, pr := fun b o hp => ⟨hnl b, hpr b o hp⟩ } ⟨hargs.1, fun i z u hz hu => ?_⟩).mono ?_
  · exact (hargs.2 i z u hz hu).anyBlocks (ha z (List.mem_of_getElem? hz)) []
  · rintro v w' ⟨r', H', bl', π', O', rfl, hv, hH, hO, hF⟩
    exact ⟨π', hv.anyBlocks hf bl, ⟨hF.os, hF.tape, hF.output, hF.size, fun k hk => hF.block k hk (hnl k) (by simp)⟩, hF.sub, fun b o hp => ⟨by
      rcases hF.fresh b o hp with h | h | h
      · exact .inl h
      · exact .inr h
      · exact h.elim, (hH.pr b o hp).2⟩⟩

end Go.Pi
/- A function's body over abstract states. -/
namespace Go.Pi
open Go.RowKit

/-- How a piece of code is left. -/
inductive Ex where
  | normal
  | exit (id : Nat)
  | ret
  deriving DecidableEq

def Ex.to : Ex → Exit
  | .normal => .normal
  | .exit id => .exit id
  | .ret => .ret

/-- Where code runs: a program, and what a call of a loop's body comes to. -/
structure Cx where
  prog : Program
  Y : Nat → List PV → List PObj → (PV → List PObj → Prop) → Prop
  top : Prop

/-- What a call that may turn objects says. -/
def PO.big (C : Cx) (s : St) (R : PV → List PObj → Prop) : PO → Prop
  | .call f args => Sum C.prog f (args.map s.arg) s.H R
  | .callv f args => match s.arg f with
    | .clo g cap => Sum C.prog g (args.map s.arg ++ cap) s.H R
    | .yld id => C.Y id (args.map s.arg) s.H R
    | _ => False
  | _ => False

/-- An operation that is carried out. -/
def pwpDo (C : Cx) (o : POp) (K : St → Prop) (s : St) : Prop :=
  match o.op with
  | .call f args => ∃ R, PO.big C s R (.call f args) ∧ (∃ r H', R r H') ∧ ∀ r H', R r H' → K (({ s with H := H' } : St).set o.dst r.strip)
  | .pcall f args => ∃ r, Pure C.prog f (args.map s.arg) r ∧ K (s.set o.dst r.strip)
  | .callv f args => ∃ R, PO.big C s R (.callv f args) ∧ (∃ r H', R r H') ∧ ∀ r H', R r H' → K (({ s with H := H' } : St).set o.dst r.strip)
  | .mnext it => NextOK s.H (s.arg it) ∧ ∀ r H', NextR s.H (s.arg it) r H' → K (({ s with H := H' } : St).set o.dst r)
  | op => ∃ s', op.step o.dst s = some s' ∧ K s'

/-- What stands in the slot of an operation that wasn't carried out. -/
def skipped : PV := .tup []

/-- What a guard says: carried out, or not. -/
def gdOf (p : PV) (b : Bool) : Option Bool :=
  match p with
  | .v (.bool c) => some (c == b)
  | .tup [] => some false
  | _ => none

def pwpOp (C : Cx) (o : POp) (K : St → Prop) (s : St) : Prop :=
  match o.guard with
  | none => pwpDo C o K s
  | some (t, b) => ∃ g, gdOf (s.t t) b = some g ∧ (g = true → pwpDo C o K s) ∧ (g = false → K (s.set o.dst skipped))

def pwpOps (C : Cx) : List POp → (St → Prop) → St → Prop
  | [], K, s => K s
  | o :: os, K, s => pwpOp C o (pwpOps C os K) s

/-- Where a frame's code runs. -/
def fence (E : Ent) : Fence := { Fence.wide with round := E.round }

/-- What a call of a loop's body comes to in the machine. -/
def YRes (P : Program) (b : Nat) (cargs : Array Value) (w : World) (Q : Value → World → Prop) : Prop :=
  ∃ fn tmps asg body, (Instr.yield b cargs).run P w = .ok (.round b fn tmps asg body) w ∧ RoundIn Fence.wide 0 P b fn tmps asg body w fun e w' => ∃ v, e = .returned v ∧ Q v w'

/-- What is said of a loop's body is so. -/
def EOk (P : Program) (E : Ent) : Prop :=
  ∀ (w : World) (bl : List Nat) (π : Nat → Nat → Prop) (O : Nat → Prop) (H : List PObj) (id b : Nat) (args : List PV) (cargs : Array Value) (R : PV → List PObj → Prop),
    Frame' E.w E.bl E.π E.O E.H w bl π H → OwnGrow E.w E.O O → HRel w bl π O H → bl[id]? = some b → ArgsRel w bl π args cargs → E.Y id args H R → YRes P b cargs w (After w bl π O H R)

/-- What holds of every machine state that an abstract state tells, of code of this compact form. -/
def SemW (C : Cx) (pures : List Nat) (n : Nat) (pc : PCode) (Q : Ex → St → Prop) (s : St) : Prop :=
  ∀ c, compCode C.prog pures n c = some pc → ∀ (E : Ent) (bl : List Nat) (π : Nat → Nat → Prop) (om : Loc → Option Nat) (a : Act) (w : World), E.n = n → E.Y = C.Y ∧ (C.top → E.round = none) → EOk C.prog E → Rel E s bl π om a w →
    c.wpIn (fence E) 0 C.prog (fun ex a' w' => ∃ ex' s' bl' π' om', ex'.to = ex ∧ Q ex' s' ∧ Rel E s' bl' π' om' a' w') a w

def pwp (C : Cx) (pures : List Nat) (n : Nat) : PCode → (Ex → St → Prop) → St → Prop
  | .skip, Q, s => Q .normal s
  | .reg _ ops, Q, s => pwpOps C ops (Q .normal) s
  | .seq a b, Q, s => pwp C pures n a (fun ex s' => match ex with | .normal => pwp C pures n b Q s' | ex => Q ex s') s
  | .cond c a b, Q, s => ∃ t, s.arg c = .v (.bool t) ∧ (t = true → pwp C pures n a Q s) ∧ (t = false → pwp C pures n b Q s)
  | .block id a, Q, s => pwp C pures n a (fun ex s' => match ex with | .exit i => if i = id then Q .normal s' else Q (.exit i) s' | ex => Q ex s') s
  | .loop a, Q, s => SemW C pures n (.loop a) Q s
  | .rangef f ps a b, Q, s => SemW C pures n (.rangef f ps a b) Q s
  | .exit id, Q, s => Q (.exit id) s
  | .ret, Q, s => Q .ret s

section
variable {C : Cx}

theorem pwpDo_mono {o : POp} {K K' : St → Prop} {s : St} (hk : ∀ s, K s → K' s) (h : pwpDo C o K s) : pwpDo C o K' s := by
  unfold pwpDo at h ⊢
  split at h
  · obtain ⟨R, h1, h2, h3⟩ := h; exact ⟨R, h1, h2, fun r H' hr => hk _ (h3 r H' hr)⟩
  · obtain ⟨r, h1, h2⟩ := h; exact ⟨r, h1, hk _ h2⟩
  · obtain ⟨R, h1, h2, h3⟩ := h; exact ⟨R, h1, h2, fun r H' hr => hk _ (h3 r H' hr)⟩
  · exact ⟨h.1, fun r H' hr => hk _ (h.2 r H' hr)⟩
  · obtain ⟨s', h1, h2⟩ := h; exact ⟨s', h1, hk _ h2⟩

theorem pwpOp_mono {o : POp} {K K' : St → Prop} {s : St} (hk : ∀ s, K s → K' s) (h : pwpOp C o K s) : pwpOp C o K' s := by
  unfold pwpOp at h ⊢
  split at h
  · exact pwpDo_mono hk h
  · obtain ⟨c, h1, h2, h3⟩ := h
    exact ⟨c, h1, fun hc => pwpDo_mono hk (h2 hc), fun hc => hk _ (h3 hc)⟩

theorem pwpOps_mono {os : List POp} {K K' : St → Prop} {s : St} (hk : ∀ s, K s → K' s) (h : pwpOps C os K s) : pwpOps C os K' s := by
  induction os generalizing s with
  | nil => exact hk s h
  | cons o os ih => exact pwpOp_mono (fun s => ih) h

theorem pwpOps_append {os os' : List POp} {K : St → Prop} {s : St} : pwpOps C (os ++ os') K s ↔ pwpOps C os (pwpOps C os' K) s := by
  induction os generalizing s with
  | nil => exact Iff.rfl
  | cons o os ih =>
    simp only [List.cons_append, pwpOps]
    exact ⟨pwpOp_mono fun s => ih.1, pwpOp_mono fun s => ih.2⟩

/-! ### One operation of the machine -/

variable {E : Ent} {s : St} {bl : List Nat} {π : Nat → Nat → Prop} {om : Loc → Option Nat} {a : Act} {w : World}

theorem mapArgs {xs : List Operand} {ys : List Arg} (h : Rel E s bl π om a w) (hy : optArgs xs = some ys) : ArgsRel w bl π (ys.map s.arg) (xs.map a.eval).toArray := by
  obtain ⟨l1, l2⟩ := args_rel h hy
  refine ⟨by simp [l1], fun i z u hz hu => ?_⟩
  simp only [List.getElem?_map, Option.map_eq_some_iff] at hz
  simp only [List.getElem?_toArray, List.getElem?_map, Option.map_eq_some_iff] at hu
  obtain ⟨y, hy', rfl⟩ := hz
  obtain ⟨x, hx, rfl⟩ := hu
  exact h.arg (l2 i y x hy' hx)

theorem not_defer {P : Program} {pures : List Nat} {ops : Array Oper} {o : Oper} {q : PO} (h : compOp0 P pures ops o = some q) (c : Call) : o.op ≠ .defer c := by
  intro e
  simp [compOp0, e] at h

theorem wpIn_run {P : Program} {o : Oper} {next : Act → World → Prop} {Q : Exit → Act → World → Prop} (hnd : ∀ c, o.op ≠ .defer c) (h : o.uponIn (fence E) 0 P a next Q ((execOp a.eval o).run P w)) : o.wpIn (fence E) 0 P a w next Q := by
  refine ⟨fun _ _ => trivial, ?_⟩
  rw [Oper.semAt_eq _ _ _ hnd]
  exact h

theorem wide_depth : (fence E).depth.isSome = true → 1 ≤ 0 := by simp [fence, Fence.wide]

/-- A call by a function's number, carried out. -/
theorem wp_callRes {P : Program} {o : Oper} {f : FuncId} {args : Array Value} {Q : Exit → Act → World → Prop} {next : Act → World → Prop} {R : Value → World → Prop} (hnd : ∀ c, o.op ≠ .defer c)
    (hrun : (execOp a.eval o).run P w = (callFunc f args).run P w) (hc : CallRes P f args w R) (hn : ∀ v w', R v w' → next (a.put o.dst v) w') : o.wpIn (fence E) 0 P a w next Q := by
  refine wpIn_run hnd ?_
  rw [hrun]
  rcases hc with ⟨h1, h2⟩ | ⟨v, w', h1, h2⟩
  · rw [h1, Oper.uponIn_enter]
    refine ⟨wide_depth, ?_⟩
    have h3 : CallsIn Fence.wide (0 - 1) P f args w fun e w' => ∃ v, e = .returned v ∧ R v w' := callsIn_wide.2 h2
    have h4 : CallsIn (fence E) (0 - 1) P f args w fun e w' => ∃ v, e = .returned v ∧ R v w' := h3
    refine h4.mono ?_
    rintro e w' ⟨v, rfl, hv⟩
    exact hn v w' hv
  · rw [h1]
    exact hn v w' h2

theorem wp_yRes {P : Program} {o : Oper} {b : Nat} {args : Array Value} {Q : Exit → Act → World → Prop} {next : Act → World → Prop} {R : Value → World → Prop} (hnd : ∀ c, o.op ≠ .defer c)
    (hrun : (execOp a.eval o).run P w = (Instr.yield b args).run P w) (hc : YRes P b args w R) (hn : ∀ v w', R v w' → next (a.put o.dst v) w') : o.wpIn (fence E) 0 P a w next Q := by
  refine wpIn_run hnd ?_
  rw [hrun]
  obtain ⟨fn, tmps, asg, body, h1, h2⟩ := hc
  rw [h1, Oper.uponIn_round]
  refine ⟨wide_depth, ?_⟩
  have h3 : RoundIn (fence E) (0 - 1) P b fn tmps asg body w fun e w' => ∃ v, e = .returned v ∧ R v w' := h2
  refine h3.mono ?_
  rintro e w' ⟨v, rfl, hv⟩
  exact hn v w' hv

theorem doSound (h : Rel E s bl π om a w) (hE : E.Y = C.Y) (hok : EOk C.prog E) {pures : List Nat} {ops : Array Oper} {o : Oper} {q : POp} {K : St → Prop} {next : Act → World → Prop} {Q : Exit → Act → World → Prop}
    (hc : compOp C.prog pures ops o = some q.op) (hdst : q.dst = o.dst) (hd : ∀ t, o.dst = some t → t < E.n) (hp : pwpDo C q K s)
    (hn : ∀ s' bl' π' om' a' w', K s' → Rel E s' bl' π' om' a' w' → next a' w') : o.wpIn (fence E) 0 C.prog a w next Q := by
  have hnd := not_defer (compOp_spec hc).1
  have viaStep : ∀ {s'}, q.op.step q.dst s = some s' → K s' → o.wpIn (fence E) 0 C.prog a w next Q := by
    intro s' hs hk
    rw [hdst] at hs
    obtain ⟨v, w', bl', π', om', hr, hrel⟩ := stepSound h hc hd hs
    refine wpIn_run hnd ?_
    rcases hr with hr | ⟨hr, rfl⟩
    · rw [hr]; exact hn _ _ _ _ _ _ hk hrel
    · rw [hr]; exact hn _ _ _ _ _ _ hk hrel
  by_cases hcall : q.op.isCall = true
  · obtain ⟨hc0, hcv⟩ := compOp_spec hc
    have hcv := hcv hcall
    cases ho : o.op with
    | next it isStr =>
      cases isStr with
      | true => simp [compOp0, ho] at hc0
      | false =>
        simp only [compOp0, ho, Option.map_eq_some_iff] at hc0
        obtain ⟨y, hy, hq⟩ := hc0
        unfold pwpDo at hp
        rw [← hq] at hp
        simp only at hp
        obtain ⟨hnok, hk⟩ := hp
        obtain ⟨r, H', hR, v, w', om', hrun, hrel⟩ := done_mnext (P := C.prog) h ho hy hd hnok
        refine wpIn_run hnd ?_
        rw [hrun]
        have := hk r H' hR
        rw [hdst] at this
        exact hn _ _ _ _ _ _ this hrel
    | call c =>
      obtain ⟨f, hcal⟩ : ∃ f, c.callee = .value f := by
        rw [ho] at hcv
        cases c with
        | mk callee args ts => cases callee <;> simp [callsValue] at hcv; exact ⟨_, rfl⟩
      have afterCall : ∀ {R : PV → List PObj → Prop}, (∀ r H', R r H' → K (({ s with H := H' } : St).set q.dst r.strip)) → ∀ v w', After w bl π (ownC om) s.H R v w' → next (a.put o.dst v) w' := by
        rintro R hk v w' ⟨r, H', bl', π', O', hR, hv', hH, hO, hF⟩
        obtain ⟨om', hrel⟩ := h.called hd hv' hH hO hF
        have := hk r H' hR
        rw [hdst] at this
        exact hn _ _ _ _ _ _ this hrel
      by_cases hf : ∃ fn, f = .func fn
      · obtain ⟨fn, rfl⟩ := hf
        simp only [compOp0, ho, hcal, Option.map_eq_some_iff] at hc0
        obtain ⟨l, hl, hq⟩ := hc0
        obtain ⟨m1, m2⟩ := mapArgs h hl
        have hargs : ArgsRel w bl π (l.map s.arg) (c.args.map a.eval) := ⟨by simpa using m1, fun i z u hz hu => m2 i z u hz (by simpa using hu)⟩
        have hrun : (execOp a.eval o).run C.prog w = (callFunc fn (c.args.map a.eval)).run C.prog w := by
          simp [execOp, ho, resolve, hcal, Act.eval, Deferred.ofValue, invoke]
        unfold pwpDo at hp
        split at hq
        · rw [← hq] at hp
          simp only at hp
          obtain ⟨r, hpure, hk⟩ := hp
          refine wp_callRes hnd hrun (hpure w bl π _ h.nd h.lt (fun b o hp => (h.pr b o hp).2) hargs) ?_
          rintro v w' ⟨π', hv', hb, hsub, hnew⟩
          obtain ⟨om', π'', hrel⟩ := h.pcalled hd hv' hb hnew
          rw [hdst] at hk
          exact hn _ _ _ _ _ _ hk hrel
        · rw [← hq] at hp
          simp only [PO.big] at hp
          obtain ⟨R, hsum, _, hk⟩ := hp
          exact wp_callRes hnd hrun (hsum w bl π _ _ h.toH hargs) (afterCall hk)
      · have hc1 : ∃ y, argOf f = some y ∧ ∃ l, optArgs c.args.toList = some l ∧ PO.callv y l = q.op := by
          cases f with
          | func fn => exact absurd ⟨fn, rfl⟩ hf
          | tmp t => simp only [compOp0, ho, hcal, Option.bind_eq_bind, Option.bind_eq_some_iff] at hc0; obtain ⟨y, hy, l, hl, hq⟩ := hc0; exact ⟨y, hy, l, hl, Option.some.inj hq⟩
          | const t => simp only [compOp0, ho, hcal, Option.bind_eq_bind, Option.bind_eq_some_iff] at hc0; obtain ⟨y, hy, l, hl, hq⟩ := hc0; exact ⟨y, hy, l, hl, Option.some.inj hq⟩
          | global t => simp only [compOp0, ho, hcal, Option.bind_eq_bind, Option.bind_eq_some_iff] at hc0; obtain ⟨y, hy, l, hl, hq⟩ := hc0; exact ⟨y, hy, l, hl, Option.some.inj hq⟩
        obtain ⟨y, hy, args', hl, hq⟩ := hc1
        unfold pwpDo at hp
        rw [← hq] at hp
        simp only [PO.big] at hp
        obtain ⟨R, hbig, _, hk⟩ := hp
        have hclo := h.arg hy
        generalize hv : a.eval f = fv at hclo
        obtain ⟨m1, m2⟩ := mapArgs h hl
        split at hbig
        · rename_i g cap hg
          rw [hg] at hclo
          cases hclo with
          | clo hsz hr =>
            rename_i vs
            have hargs : ArgsRel w bl π (args'.map s.arg ++ cap) ((c.args.map a.eval) ++ vs) := by
              refine ⟨by simp at m1 ⊢; omega, fun i z u hz hu => ?_⟩
              have e1 : (c.args.map a.eval).size = (args'.map s.arg).length := by simp at m1 ⊢; omega
              by_cases hi : i < (args'.map s.arg).length
              · rw [List.getElem?_append_left hi] at hz
                rw [Array.getElem?_append_left (by omega)] at hu
                exact m2 i z u hz (by simpa using hu)
              · rw [List.getElem?_append_right (by omega)] at hz
                rw [Array.getElem?_append_right (by omega), e1] at hu
                exact hr _ z u hz hu
            refine wp_callRes (f := g) (args := (c.args.map a.eval) ++ vs) hnd ?_ (hbig w bl π _ _ h.toH hargs) (afterCall hk)
            simp [execOp, ho, resolve, hcal, hv, Deferred.ofValue, invoke]
        · rename_i id hg
          rw [hg] at hclo
          cases hclo with
          | yld hb =>
            rename_i b
            have hargs : ArgsRel w bl π (args'.map s.arg) (c.args.map a.eval) := ⟨by simpa using m1, fun i z u hz hu => m2 i z u hz (by simpa using hu)⟩
            have hown : OwnGrow E.w E.O (ownC om) := fun b ⟨id, off, hb⟩ => by
              rcases (h.omw _ _ hb).2.1 with g | g
              · exact .inr g
              · exact .inl g
            refine wp_yRes (b := b) (args := c.args.map a.eval) hnd ?_ (hok w bl π _ s.H id b _ _ R h.fr hown h.toH hb hargs (by rw [hE]; exact hbig)) (afterCall hk)
            simp [execOp, ho, resolve, hcal, hv, Deferred.ofValue, invoke]
        · exact hbig.elim
    | _ => rw [ho] at hcv; simp [callsValue] at hcv
  · have hpd : ∃ s', q.op.step q.dst s = some s' ∧ K s' := by
      unfold pwpDo at hp
      split at hp
      · rename_i e; rw [e] at hcall; simp [PO.isCall] at hcall
      · rename_i e; rw [e] at hcall; simp [PO.isCall] at hcall
      · rename_i e; rw [e] at hcall; simp [PO.isCall] at hcall
      · rename_i e; rw [e] at hcall; simp [PO.isCall] at hcall
      · exact hp
    obtain ⟨s', h1, h2⟩ := hpd
    exact viaStep h1 h2

end
end Go.Pi
