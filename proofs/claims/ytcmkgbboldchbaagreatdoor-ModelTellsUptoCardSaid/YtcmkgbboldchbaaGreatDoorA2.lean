import Derived.Test.YtcmkgbboldchbaaGreatDoorA1
import Derived.WideKeyRuns
import Derived.MapKept
set_option linter.unusedSimpArgs false
set_option linter.unusedVariables false
/- Lengths, slices, structs built, least and greatest. -/
namespace Go.Pi
open Go.RowKit

section
variable {P : Program} {E : Ent} {s : St} {bl : List Nat} {π : Nat → Nat → Prop} {om : Loc → Option Nat} {a : Act} {w : World}

theorem VRel.slcLen {o : Bool} {xs : List PV} {v : Value} (h : VRel w bl π (.slc o xs) v) : ∃ q cap, v = .slice q xs.length cap ∧ xs.length ≤ cap := by
  cases h with
  | slc0 h => exact ⟨_, _, rfl, Nat.zero_le _⟩
  | slc cv hne hcap hk hc hr => exact ⟨_, _, rfl, hcap⟩

theorem sliceT {t : TypeId} (h : isSliceT P t = true) : ∃ e, P.underlying t = some (.slice e) := by
  unfold isSliceT at h
  split at h
  · exact ⟨_, by assumption⟩
  · cases h
theorem stringT {t : TypeId} (h : isStringT P t = true) : P.underlying t = some .string := by
  unfold isStringT at h
  split at h
  · assumption
  · cases h

theorem gives_len (h : Rel E s bl π om a w) {o : Oper} {c : Call} {t : TypeId} {x : Operand} {x' : Arg} {p : PV} (ho : o.op = .call c) (hcal : c.callee = .builtin .len) (ht : c.argTypes[0]? = some t) (hx : c.args.toList = [x]) (ha : argOf x = some x')
    (hd : isSliceT P t = true) (hp : (PO.len x').val s = some p) : Gives P E s bl π a w o p := by
  have h1 := h.arg ha
  obtain ⟨e, hu⟩ := sliceT hd
  simp only [PO.val] at hp
  generalize s.arg x' = q1 at h1 hp
  have hargs : c.args = #[x] := by
    apply Array.ext'
    simpa using hx
  split at hp
  · cases hp
    obtain ⟨q, cap, hv, _⟩ := h1.slcLen
    exact ⟨_, by simp [execOp, ho, resolve, hcal, invoke, builtin, Builtin.len_, ht, hargs, hv, run_underlying hu, goInt], plain_v rfl⟩
  · cases hp
    generalize hv : a.eval x = v at h1
    cases h1
    exact ⟨_, by simp [execOp, ho, resolve, hcal, invoke, builtin, Builtin.len_, ht, hargs, hv, run_underlying hu, goInt], plain_v rfl⟩
  · cases hp

theorem gives_slen (h : Rel E s bl π om a w) {o : Oper} {c : Call} {t : TypeId} {x : Operand} {x' : Arg} {p : PV} (ho : o.op = .call c) (hcal : c.callee = .builtin .len) (ht : c.argTypes[0]? = some t) (hx : c.args.toList = [x]) (ha : argOf x = some x')
    (hd : isStringT P t = true) (hp : (PO.slen x').val s = some p) : Gives P E s bl π a w o p := by
  have h1 := h.arg ha
  have hu := stringT hd
  simp only [PO.val] at hp
  generalize s.arg x' = q1 at h1 hp
  have hargs : c.args = #[x] := by
    apply Array.ext'
    simpa using hx
  split at hp
  · have hv := h1.string rfl
    cases hp
    exact ⟨_, by simp [execOp, ho, resolve, hcal, invoke, builtin, Builtin.len_, ht, hargs, hv, run_underlying hu, goInt], plain_v rfl⟩
  · cases hp

/-! ### Parts of slices and strings -/

/-- A bound that is given. -/
theorem run_sb (h : Rel E s bl π om a w) {x : Operand} {x' : Arg} (hx : argOf x = some x') {y d n Y : Nat} (hb : boundOf s y d (some x') = some n) (hY : y ≤ Y) (code : BoundsCode) :
    (Instr.sliceBound (a.eval x) Y code).run P w = .ok n w ∧ n ≤ y := by
  have h1 := h.arg hx
  simp only [boundOf] at hb
  split at hb
  · rename_i k i hq
    have hv := h1.int hq
    split at hb
    · rename_i hc
      cases hb
      have hc' : 0 ≤ i ∧ i ≤ (Y : Int) := ⟨hc.1, by omega⟩
      exact ⟨by simp [hv, Instr.sliceBound, asIntOf, hc'], by omega⟩
    · cases hb
  · cases hb

theorem run_bounds (h : Rel E s bl π om a w) {lo hi : Option Operand} {lo' hi' : Option Arg} (hlo : lo.mapM argOf = some lo') (hhi : hi.mapM argOf = some hi') {len cap hh l : Nat} (hcap : len ≤ cap) (e1 : boundOf s len len hi' = some hh) (e2 : boundOf s hh 0 lo' = some l) (isSlice : Bool) :
    (Instr.sliceBounds isSlice len cap (lo.map a.eval) (hi.map a.eval) none).run P w = .ok (l, hh, cap) w ∧ hh ≤ len ∧ l ≤ hh := by
  cases hi with
  | none =>
    simp at hhi; subst hhi; simp [boundOf] at e1; subst e1
    cases lo with
    | none => simp at hlo; subst hlo; simp [boundOf] at e2; subst e2; simp [Instr.sliceBounds]
    | some y =>
      simp only [Option.mapM_some, Option.map_eq_map, Option.map_eq_some_iff] at hlo
      obtain ⟨y', hy, rfl⟩ := hlo
      obtain ⟨r, rl⟩ := run_sb (P := P) h hy e2 (Nat.le_refl _) .sliceB
      simp [Instr.sliceBounds, r, rl]
  | some x =>
    simp only [Option.mapM_some, Option.map_eq_map, Option.map_eq_some_iff] at hhi
    obtain ⟨x', hx, rfl⟩ := hhi
    cases lo with
    | none =>
      simp at hlo; subst hlo; simp [boundOf] at e2; subst e2
      cases isSlice
      · obtain ⟨r, rl⟩ := run_sb (P := P) h hx e1 hcap .sliceAlen
        simp [Instr.sliceBounds, r, rl]
      · obtain ⟨r, rl⟩ := run_sb (P := P) h hx e1 hcap .sliceAcap
        simp [Instr.sliceBounds, r, rl]
    | some y =>
      simp only [Option.mapM_some, Option.map_eq_map, Option.map_eq_some_iff] at hlo
      obtain ⟨y', hy, rfl⟩ := hlo
      obtain ⟨r2, rl2⟩ := run_sb (P := P) h hy e2 (Nat.le_refl _) .sliceB
      cases isSlice
      · obtain ⟨r, rl⟩ := run_sb (P := P) h hx e1 hcap .sliceAlen
        simp [Instr.sliceBounds, r, rl, r2, rl2]
      · obtain ⟨r, rl⟩ := run_sb (P := P) h hx e1 hcap .sliceAcap
        simp [Instr.sliceBounds, r, rl, r2, rl2]

theorem run_bounds3 (h : Rel E s bl π om a w) {lo : Option Operand} {hi mx : Operand} {lo' : Option Arg} {hi' mx' : Arg} (hlo : lo.mapM argOf = some lo') (hhi : argOf hi = some hi') (hmx : argOf mx = some mx') {len cap hh l m : Nat} (hcap : len ≤ cap) (e0 : boundOf s len 0 (some mx') = some m) (e1 : boundOf s m 0 (some hi') = some hh) (e2 : boundOf s hh 0 lo' = some l) :
    (Instr.sliceBounds true len cap (lo.map a.eval) (some (a.eval hi)) (some (a.eval mx))).run P w = .ok (l, hh, m) w ∧ m ≤ len ∧ hh ≤ m ∧ l ≤ hh := by
  obtain ⟨r0, rl0⟩ := run_sb (P := P) h hmx e0 hcap .slice3Acap
  obtain ⟨r1, rl1⟩ := run_sb (P := P) h hhi e1 (Nat.le_refl _) .slice3B
  cases lo with
  | none =>
    simp at hlo; subst hlo; simp [boundOf] at e2; subst e2
    simp [Instr.sliceBounds, r0, r1, rl0, rl1]
  | some y =>
    simp only [Option.mapM_some, Option.map_eq_map, Option.map_eq_some_iff] at hlo
    obtain ⟨y', hy, rfl⟩ := hlo
    obtain ⟨r2, rl2⟩ := run_sb (P := P) h hy e2 (Nat.le_refl _) .slice3C
    simp [Instr.sliceBounds, r0, r1, r2, rl0, rl1, rl2]

theorem gives_sslice (h : Rel E s bl π om a w) {o : Oper} {t : TypeId} {x : Operand} {x' : Arg} {lo hi : Option Operand} {lo' hi' : Option Arg} {p : PV} (ho : o.op = .slice t x lo hi none) (ha : argOf x = some x') (hlo : lo.mapM argOf = some lo') (hhi : hi.mapM argOf = some hi')
    (hu : P.underlying t = some .string) (hp : (PO.sslice x' lo' hi').val s = some p) : Gives P E s bl π a w o p := by
  have h1 := h.arg ha
  simp only [PO.val] at hp
  generalize s.arg x' = q1 at h1 hp
  split at hp
  · rename_i b
    have hv := h1.string rfl
    simp only [Option.bind_eq_some_iff, Option.map_eq_some_iff] at hp
    obtain ⟨hh, e1, l, e2, rfl⟩ := hp
    obtain ⟨r, _, _⟩ := run_bounds (P := P) h hlo hhi (Nat.le_refl _) e1 e2 false
    exact ⟨.string (b.extract l hh), by simp [execOp, ho, hv, Instr.sliceAt, run_underlying hu, Instr.slice, r], plain_v rfl⟩
  · cases hp

theorem VRel.slcPart {o : Bool} {xs : List PV} {b off cap k h l : Nat} {ow : Bool} (cv : Nat → Nat → Value) (hk : ∀ x ∈ xs, x.cells.length = k)
    (hc : ∀ j c, j < xs.length → c < k → π b (off + j * k + c) ∧ w.kell ⟨b, off + j * k + c, none⟩ = some (cv j c))
    (hr : ∀ (j c : Nat) (x z : PV), xs[j]? = some x → x.cells[c]? = some z → VRel w bl π z (cv j c)) (hh : h ≤ xs.length) (hl : l ≤ h) (hcap : h ≤ cap) (hne : l ≠ h) (_ : o = ow) :
    VRel w bl π (.slc ow ((xs.take h).drop l)) (.slice (some ⟨b, off + l * k, none⟩) (h - l) (cap - l)) := by
  have hlen : ((xs.take h).drop l).length = h - l := by simp; omega
  have := VRel.slc (w := w) (bl := bl) (π := π) (o := ow) (xs := (xs.take h).drop l) (b := b) (off := off + l * k) (cap := cap - l) (k := k) (fun j c => cv (l + j) c)
    (by intro e; rw [e] at hlen; simp at hlen; omega) (by rw [hlen]; omega)
    (fun x hx => hk x (List.mem_of_mem_take (List.mem_of_mem_drop hx)))
    (fun j c hj hcc => by
      rw [hlen] at hj
      have := hc (l + j) c (by omega) hcc
      rw [Nat.add_mul, ← Nat.add_assoc] at this
      exact this)
    (fun j c x z hx hz => by
      rw [List.getElem?_drop, List.getElem?_take] at hx
      split at hx
      · exact hr (l + j) c x z hx hz
      · cases hx)
  rw [hlen] at this
  exact this

theorem gives_slice (h : Rel E s bl π om a w) {o : Oper} {t e : TypeId} {j : TypeInfo} {x : Operand} {x' : Arg} {lo hi mx : Option Operand} {lo' hi' mx' : Option Arg} {p : PV} (ho : o.op = .slice t x lo hi mx) (ha : argOf x = some x')
    (hlo : lo.mapM argOf = some lo') (hhi : hi.mapM argOf = some hi') (hmx : mx.mapM argOf = some mx') (hu : P.underlying t = some (.slice e)) (hi0 : P.info? e = some j)
    (hp : (PO.slice x' lo' hi' mx' j.size).val s = some p) : Gives P E s bl π a w o p := by
  have h1 := h.arg ha
  simp only [PO.val] at hp
  generalize s.arg x' = q1 at h1 hp
  have hso : ∀ w, (sizeOf e).run P w = .ok j.size w := fun w => by simp [sizeOf, typeInfo, hi0]
  split at hp
  · rename_i ow xs
    have fin : ∀ (hh l m : Nat) (q : Option Addr) (cap : Nat) (ow' : Bool), a.eval x = .slice q xs.length cap → hh ≤ xs.length → l ≤ hh → hh ≤ m → m ≤ cap → (ow' = true → hh = m) → xs.length ≤ cap → (l = 0 ∨ (xs.all fun p => p.cells.length == j.size) = true) →
        (execOp a.eval o).run P w = .ok (.value (.slice (if m = l then q else q.map (·.add (l * j.size))) (hh - l) (m - l))) w → Gives P E s bl π a w o (.slc ow' ((xs.take hh).drop l)) := by
      intro hh l m q cap ow' hv g1 g2 g3 g4 g5 g6 g7 hrun
      refine ⟨_, hrun, ?_⟩
      by_cases hlh : l = hh
      · subst hlh
        have e0 : (xs.take l).drop l = [] := by simp
        rw [e0, Nat.sub_self]
        refine ⟨.slc0 (fun e => ?_), fun ys e hne => ?_, fun k e => by cases e⟩
        · have := g5 e; omega
        · cases e; exact absurd rfl hne
      · have hml : m ≠ l := by omega
        simp only [hml, if_false]
        rw [hv] at h1
        cases h1 with
        | slc0 _ => simp at g1; omega
        | slc cv hne hcap hk hc hr =>
          rename_i b off k
          have hkl : l * k = l * j.size := by
            rcases g7 with rfl | g7
            · simp
            · obtain ⟨y, hy⟩ := List.exists_mem_of_ne_nil xs hne
              have g8 := List.all_eq_true.1 g7 y hy
              rw [← hk y hy]
              simp at g8
              rw [g8]
          refine ⟨?_, fun ys e hne' => ?_, fun k e => by cases e⟩
          · have := VRel.slcPart (o := ow') (ow := ow') (cap := m) cv hk hc hr g1 g2 (by omega) hlh rfl
            rw [hkl] at this
            simpa [addr_add] using this
          · cases e
            refine ⟨_, _, _, rfl, .inl ?_⟩
            have := g5 rfl
            omega
    obtain ⟨q, cap, hv, hcap⟩ := h1.slcLen
    cases mx with
    | none =>
      simp at hmx; subst hmx
      simp only [Option.bind_eq_some_iff] at hp
      obtain ⟨hh, e1, l, e2, hp⟩ := hp
      split at hp
      · rename_i hcond
        cases hp
        obtain ⟨r, r1, r2⟩ := run_bounds (P := P) h hlo hhi hcap e1 e2 true
        refine fin hh l cap q cap false hv r1 r2 (by omega) (Nat.le_refl _) (by simp) hcap hcond ?_
        simp [execOp, ho, hv, Instr.sliceAt, run_underlying hu, Instr.slice, r, hso]
      · cases hp
    | some mx =>
      simp only [Option.mapM_some, Option.map_eq_map, Option.map_eq_some_iff] at hmx
      obtain ⟨mx'', hmx1, rfl⟩ := hmx
      simp only at hp
      cases hi with
      | none => simp at hhi; subst hhi; simp at hp
      | some hi =>
        simp only [Option.mapM_some, Option.map_eq_map, Option.map_eq_some_iff] at hhi
        obtain ⟨hi'', hhi1, rfl⟩ := hhi
        simp only [Option.isNone_some, Bool.false_eq_true, if_false, Option.bind_eq_some_iff] at hp
        obtain ⟨m, e0, hh, e1, l, e2, hp⟩ := hp
        split at hp
        · rename_i hcond
          cases hp
          obtain ⟨r, r0, r1, r2⟩ := run_bounds3 (P := P) h hlo hhi1 hmx1 hcap e0 e1 e2
          refine fin hh l m q cap _ hv (by omega) r2 r1 (by omega) (by simp) hcap hcond ?_
          simp [execOp, ho, hv, Instr.sliceAt, run_underlying hu, Instr.slice, r, hso]
        · cases hp
  · cases hp

/-! ### Building -/

theorem setAt_spec {cs l cs' : List PV} {off : Nat} (h : setAt cs off l = some cs') : off + l.length ≤ cs.length ∧ cs'.length = cs.length ∧
    ∀ i, cs'[i]? = if off ≤ i ∧ i < off + l.length then l[i - off]? else cs[i]? := by
  unfold setAt at h
  split at h
  · rename_i hle
    cases h
    refine ⟨hle, by simp; omega, fun i => ?_⟩
    by_cases h1 : i < off
    · rw [if_neg (by omega), List.getElem?_append_left (by simp; omega), List.getElem?_append_left (by simp; omega), List.getElem?_take, if_pos h1]
    · by_cases h2 : i < off + l.length
      · rw [if_pos (by omega), List.getElem?_append_left (by simp; omega), List.getElem?_append_right (by simp; omega)]
        simp
        congr 1
        omega
      · rw [if_neg (by omega), List.getElem?_append_right (by simp; omega), List.getElem?_drop]
        simp
        congr 1
        omega
  · cases h

/-- Cells laid over a row, one behind the other. -/
theorem foldl_set (l : List Value) : ∀ (cells : Array Value) (off k : Nat), off + k + l.length ≤ cells.size →
    ((l.zipIdx k).foldl (fun cs (c, j) => cs.setIfInBounds (off + j) c) cells).size = cells.size ∧
    ∀ i, ((l.zipIdx k).foldl (fun cs (c, j) => cs.setIfInBounds (off + j) c) cells)[i]? = if off + k ≤ i ∧ i < off + k + l.length then l[i - (off + k)]? else cells[i]? := by
  induction l with
  | nil =>
    intro cells off k h
    refine ⟨rfl, fun i => ?_⟩
    simp
    intro h1 h2
    omega
  | cons x l ih =>
    intro cells off k h
    simp only [List.length_cons] at h
    obtain ⟨i1, i2⟩ := ih (cells.setIfInBounds (off + k) x) off (k + 1) (by simp; omega)
    simp only [List.zipIdx_cons, List.foldl_cons]
    refine ⟨by rw [i1]; simp, fun i => ?_⟩
    rw [i2 i]
    simp only [List.length_cons]
    by_cases h1 : off + (k + 1) ≤ i ∧ i < off + (k + 1) + l.length
    · rw [if_pos h1, if_pos (by omega)]
      rw [show i - (off + k) = (i - (off + (k + 1))) + 1 by omega]
      simp
    · rw [if_neg h1]
      by_cases h2 : i = off + k
      · subst h2
        rw [if_pos (by omega), Array.getElem?_setIfInBounds_self_of_lt (by omega)]
        simp
      · rw [if_neg (by omega), Array.getElem?_setIfInBounds_ne (Ne.symm h2)]

theorem fill_rel (h : Rel E s bl π om a w) {place : Nat → Option (Nat × Nat)} : ∀ (parts : List (Nat × Operand)) (parts' : List (Nat × Nat × Arg)), compParts place parts = some parts' →
    ∀ (pcs pcs' : List PV) (cs : Array Value), buildPV s pcs parts' = some pcs' → cs.size = pcs.length → (∀ (i : Nat) (z : PV) (u : Value), pcs[i]? = some z → cs[i]? = some u → VRel w bl π z u) →
    ∃ cs', Instr.fill place cs (parts.map fun (i, x) => (i, a.eval x)) = some cs' ∧ cs'.size = pcs'.length ∧ ∀ (i : Nat) (z : PV) (u : Value), pcs'[i]? = some z → cs'[i]? = some u → VRel w bl π z u := by
  intro parts
  induction parts with
  | nil =>
    intro parts' hc pcs pcs' cs hb hs hr
    simp [compParts] at hc
    subst hc
    simp [buildPV] at hb
    subst hb
    exact ⟨cs, rfl, hs, hr⟩
  | cons p parts ih =>
    obtain ⟨i, x⟩ := p
    intro parts' hc pcs pcs' cs hb hs hr
    simp only [compParts, List.mapM_cons, Option.bind_eq_bind, Option.bind_eq_some_iff, Option.pure_def, Option.some.injEq, Option.map_eq_some_iff] at hc
    obtain ⟨q, ⟨⟨off, k⟩, hp, y, hy, rfl⟩, rest, hrest, rfl⟩ := hc
    simp only [buildPV] at hb
    split at hb
    · rename_i hk
      obtain ⟨hk1, hk2⟩ := hk
      simp only [Option.bind_eq_some_iff] at hb
      obtain ⟨pcs1, hset, hb⟩ := hb
      obtain ⟨s1, s2, s3⟩ := setAt_spec hset
      have hx := h.arg hy
      have hj := storable_ne (p := s.arg y) (by rw [← storable_strip]; exact hk2)
      obtain ⟨c1, c2⟩ := hx.cellsOf hj
      simp only [List.length_map] at hk1 s1 s2 s3
      have hsz : (a.eval x).cells.size = k := by rw [c1, hk1]
      have hfit : off + (a.eval x).cells.size ≤ cs.size := by omega
      obtain ⟨f1, f2⟩ := foldl_set (a.eval x).cells.toList cs off 0 (by simp; omega)
      have hfold : (a.eval x).cells.zipIdx.foldl (fun cs (c, j) => cs.setIfInBounds (off + j) c) cs = ((a.eval x).cells.toList.zipIdx 0).foldl (fun cs (c, j) => cs.setIfInBounds (off + j) c) cs := by
        rw [← Array.foldl_toList]
        simp
      obtain ⟨cs', g1, g2, g3⟩ := ih rest hrest pcs1 pcs' _ hb (f1.trans (by omega)) (fun i z u hz hu => by
        rw [s3] at hz
        rw [f2] at hu
        simp only [Nat.add_zero, Array.length_toList] at hu
        by_cases hc : off ≤ i ∧ i < off + k
        · rw [if_pos (by omega)] at hz hu
          simp only [List.getElem?_map, Option.map_eq_some_iff] at hz
          obtain ⟨z', hz', rfl⟩ := hz
          exact (c2 _ z' u hz' (by simpa using hu)).strip
        · rw [if_neg (by omega)] at hz hu
          exact hr i z u hz hu)
      refine ⟨cs', ?_, g2, g3⟩
      simp only [List.map_cons, Instr.fill, hp]
      rw [if_neg (by simp [hsz]; omega), hfold]
      exact g1
    · cases hb

theorem zeroOf_rel {t : TypeId} {z : List PV} (h : zeroOf P t = some z) : ∃ i v, P.info? t = some i ∧ i.zero = some v ∧ v.cells.size = z.length ∧ ∀ (w : World) (bl : List Nat) (π : Nat → Nat → Prop) (i : Nat) (p : PV) (u : Value), z[i]? = some p → v.cells[i]? = some u → VRel w bl π p u ∧ NoOwn p := by
  simp only [zeroOf, Option.bind_eq_some_iff] at h
  obtain ⟨v, ⟨i, hi, hz⟩, hm⟩ := h
  refine ⟨i, v, hi, hz, ?_⟩
  have key : ∀ (l : List Value) (z : List PV), l.mapM constPV = some z → l.length = z.length ∧ ∀ (i : Nat) (p : PV) (u : Value), z[i]? = some p → l[i]? = some u → constPV u = some p := by
    intro l
    induction l with
    | nil => intro z hz; simp at hz; subst hz; exact ⟨rfl, fun i p u h => by simp at h⟩
    | cons x l ih =>
      intro z hz
      simp only [List.mapM_cons, Option.bind_eq_bind, Option.bind_eq_some_iff, Option.pure_def, Option.some.injEq] at hz
      obtain ⟨p, hp, z', hz', rfl⟩ := hz
      obtain ⟨i1, i2⟩ := ih z' hz'
      refine ⟨by simp [i1], fun i q u hq hu => ?_⟩
      cases i with
      | zero => simp at hq hu; subst hq; subst hu; exact hp
      | succ i => simp at hq hu; exact i2 i q u hq hu
  obtain ⟨k1, k2⟩ := key _ _ hm
  refine ⟨by simpa using k1, fun w bl π i p u hp hu => ?_⟩
  have := k2 i p u hp (by simpa using hu)
  exact ⟨constRel this, constPV_own this⟩

theorem gives_build (h : Rel E s bl π om a w) {o : Oper} {t : TypeId} {parts : Array (Nat × Operand)} {parts' : List (Nat × Nat × Arg)} {z : List PV} {p : PV} {place : Nat → Option (Nat × Nat)} (ho : o.op = .build t parts) (hz : zeroOf P t = some z) (hc : compParts place parts.toList = some parts')
    (hrun : ∀ (zv : Value) (cs : Array Value) (w : World), (P.info? t).bind (·.zero) = some zv → Instr.fill place zv.cells (parts.toList.map fun (i, x) => (i, a.eval x)) = some cs → (Instr.build t (parts.map fun (i, x) => (i, a.eval x))).run P w = .ok (.agg cs) w)
    (hp : (PO.build z parts').val s = some p) : Gives P E s bl π a w o p := by
  simp only [PO.val, Option.map_eq_some_iff] at hp
  obtain ⟨pcs, hb, rfl⟩ := hp
  obtain ⟨i, zv, hi, hzv, hl, hr⟩ := zeroOf_rel hz
  obtain ⟨cs, f1, f2, f3⟩ := fill_rel h parts.toList parts' hc _ pcs zv.cells hb (by simpa using hl) (fun i z u hz hu => by
    simp only [List.getElem?_map, Option.map_eq_some_iff] at hz
    obtain ⟨z', hz', rfl⟩ := hz
    exact (hr w bl π i z' u hz' hu).1.strip)
  have r := hrun zv cs w (by simp [hi, hzv]) f1
  exact ⟨.agg cs, by simp [execOp, ho, r], .plain (.agg f2 f3) (.of fun _ e => by cases e)⟩

def placeOf (f : Field) : Sem (Nat × Nat) := do pure (f.offset, ← sizeOf f.type)

theorem run_placeOf {f : Field} (hj : (P.info? f.type).isSome = true) (w : World) : (placeOf f).run P w = .ok (f.offset, P.cellsOf f.type) w := by
  obtain ⟨j, hj⟩ := Option.isSome_iff_exists.1 hj
  simp [placeOf, sizeOf, typeInfo, hj, Program.cellsOf]

theorem run_places : ∀ (l : List Field), (∀ f ∈ l, (P.info? f.type).isSome = true) → ∀ w : World, (l.mapM placeOf).run P w = .ok (l.map fun f => (f.offset, P.cellsOf f.type)) w
  | [], _, w => by simp
  | f :: l, h, w => by
    have r := run_placeOf (h f (by simp)) w
    have i := run_places l (fun g hg => h g (by simp [hg])) w
    simp only [List.mapM_cons, Sem.run_bind, r, Result.andThen_ok, i, Sem.run_pure, List.map_cons]

theorem run_build_struct {t : TypeId} {fs : Array Field} (hu : P.underlying t = some (.struct fs)) (hall : fs.toList.all (fun f => (P.info? f.type).isSome) = true) (parts : Array (Nat × Value)) (zv : Value) (cs : Array Value) (w : World)
    (hz : (P.info? t).bind (·.zero) = some zv) (hf : Instr.fill (fun i => (fs[i]?).map fun (f : Field) => (f.offset, P.cellsOf f.type)) zv.cells parts.toList = some cs) : (Instr.build t parts).run P w = .ok (.agg cs) w := by
  simp only [Option.bind_eq_some_iff] at hz
  obtain ⟨i, hi, hz⟩ := hz
  have hplaces : (fs.mapM placeOf).run P w = .ok (fs.map fun (f : Field) => (f.offset, P.cellsOf f.type)) w := by
    rw [Array.mapM_eq_mapM_toList, Sem.run_map, run_places fs.toList (fun f hf => List.all_eq_true.1 hall f hf) w]
    simp only [Result.andThen_ok]
    congr 1
    apply Array.ext'
    simp
  simp only [Instr.build, zeroValue, typeInfo, Sem.run_bind, run_program, Result.andThen_ok, hi, Sem.run_pure, hz, run_underlying hu]
  show ((fs.mapM placeOf).run P w).andThen _ = _
  rw [hplaces]
  have hpl : (fun (i : Nat) => (fs.map fun (f : Field) => (f.offset, P.cellsOf f.type))[i]?) = fun (i : Nat) => (fs[i]?).map fun (f : Field) => (f.offset, P.cellsOf f.type) := by
    funext i
    simp
  simp only [Result.andThen_ok, hpl, hf]
  rfl

theorem run_build_array {t e : TypeId} {n : Nat} {j : TypeInfo} (hu : P.underlying t = some (.array n e)) (hj : P.info? e = some j) (parts : Array (Nat × Value)) (zv : Value) (cs : Array Value) (w : World)
    (hz : (P.info? t).bind (·.zero) = some zv) (hf : Instr.fill (fun i => some (i * j.size, j.size)) zv.cells parts.toList = some cs) : (Instr.build t parts).run P w = .ok (.agg cs) w := by
  simp only [Option.bind_eq_some_iff] at hz
  obtain ⟨i, hi, hz⟩ := hz
  simp [Instr.build, zeroValue, typeInfo, hi, hz, run_underlying hu, sizeOf, hj, hf]

theorem mm_rel {isMax : Bool} {p q r : PV} {u v : Value} (hp : VRel w bl π p u) (hq : VRel w bl π q v) (hm : mm2 isMax p q = some r) (w' : World) :
    ∃ x, (if isMax then Builtin.max2 u v else Builtin.min2 u v).run P w' = .ok x w' ∧ VRel w bl π r x ∧ ∃ y, r = .v y := by
  unfold mm2 at hm
  split at hm
  · have e1 := hp.int rfl
    have e2 := hq.int rfl
    cases hm
    subst e1
    subst e2
    cases isMax
    · exact ⟨_, by simp [Builtin.min2], .v rfl, _, rfl⟩
    · exact ⟨_, by simp [Builtin.max2], .v rfl, _, rfl⟩
  · cases hm

theorem gives_mm (h : Rel E s bl π om a w) {o : Oper} {c : Call} {isMax : Bool} {l : List Arg} {p : PV} (ho : o.op = .call c) (hcal : c.callee = .builtin (if isMax then .max else .min)) (hl : optArgs c.args.toList = some l)
    (hp : (PO.mm isMax l).val s = some p) : Gives P E s bl π a w o p := by
  simp only [PO.val] at hp
  have key : ∀ (xs : List Operand) (ys : List Arg), optArgs xs = some ys → ∀ (q r : PV) (u : Value), VRel w bl π q u → (∃ y, q = .v y) → ys.foldlM (fun p a => mm2 isMax p (s.arg a)) q = some r →
      ∃ v, ((xs.map a.eval).foldlM (if isMax then Builtin.max2 else Builtin.min2) u).run P w = .ok v w ∧ VRel w bl π r v ∧ ∃ y, r = .v y := by
    intro xs
    induction xs with
    | nil =>
      intro ys hy q r u hq hqv hr
      simp [optArgs] at hy
      subst hy
      simp at hr
      subst hr
      exact ⟨u, by simp, hq, hqv⟩
    | cons x xs ih =>
      intro ys hy q r u hq hqv hr
      simp only [optArgs, List.mapM_cons, Option.bind_eq_bind, Option.bind_eq_some_iff, Option.pure_def, Option.some.injEq] at hy
      obtain ⟨y, hy1, ys', hy2, rfl⟩ := hy
      simp only [List.foldlM_cons, Option.bind_eq_bind, Option.bind_eq_some_iff] at hr
      obtain ⟨q', hq', hr⟩ := hr
      obtain ⟨v, r1, r2, r3⟩ := mm_rel (P := P) hq (h.arg hy1) hq' w
      obtain ⟨v', s1, s2, s3⟩ := ih ys' hy2 q' r v r2 r3 hr
      refine ⟨v', ?_, s2, s3⟩
      cases isMax
      · simp only [Bool.false_eq_true, if_false] at r1 s1 ⊢
        simp [r1, s1]
      · simp only [if_true] at r1 s1 ⊢
        simp [r1, s1]
  match hca : c.args.toList with
  | [] => rw [hca] at hl; simp [optArgs] at hl; subst hl; cases hp
  | x :: xs =>
    rw [hca] at hl
    simp only [optArgs, List.mapM_cons, Option.bind_eq_bind, Option.bind_eq_some_iff, Option.pure_def, Option.some.injEq] at hl
    obtain ⟨y, hy1, ys', hy2, rfl⟩ := hl
    simp only at hp
    have hargs : (c.args.map a.eval).toList = a.eval x :: xs.map a.eval := by simp [hca]
    have hx := h.arg hy1
    -- the first is a number, or the only one
    by_cases hone : ∃ v, s.arg y = .v v
    · obtain ⟨v, r1, r2, _, rfl⟩ := key xs ys' hy2 _ _ _ hx hone hp
      refine ⟨v, ?_, .plain r2 (.of fun _ e => by cases e)⟩
      cases isMax
      · simp only [Bool.false_eq_true, if_false] at r1 hcal
        simp [execOp, ho, resolve, hcal, invoke, builtin, Builtin.min_, hca, r1]
      · simp only [if_true] at r1 hcal
        simp [execOp, ho, resolve, hcal, invoke, builtin, Builtin.max_, hca, r1]
    · cases ys' with
      | nil =>
        simp at hp
        subst hp
        have hxs : xs = [] := by
          cases xs with
          | nil => rfl
          | cons x' xs =>
            simp only [List.mapM_cons, Option.bind_eq_bind, Option.bind_eq_some_iff, Option.pure_def, Option.some.injEq] at hy2
            obtain ⟨_, _, _, _, e⟩ := hy2
            cases e
        subst hxs
        refine ⟨a.eval x, ?_, .plain hx (arg_own hy1)⟩
        cases isMax
        · simp only [Bool.false_eq_true, if_false] at hcal
          simp [execOp, ho, resolve, hcal, invoke, builtin, Builtin.min_, hca]
        · simp only [if_true] at hcal
          simp [execOp, ho, resolve, hcal, invoke, builtin, Builtin.max_, hca]
      | cons z zs =>
        exfalso
        simp only [List.foldlM_cons, Option.bind_eq_bind, Option.bind_eq_some_iff] at hp
        obtain ⟨q', hq', _⟩ := hp
        unfold mm2 at hq'
        split at hq'
        · rename_i e _
          exact hone ⟨_, e⟩
        · cases hq'

end
end Go.Pi
/- Maps: keys, looking up. -/
namespace Go.Pi
open Go.RowKit Go.MapKept

section
variable {P : Program} {w : World}

theorem sameV_self {k : Nat} {a b : Value} {r : Bool} (h : sameV k a b = some r) : sameV k a a = some true := by
  unfold sameV at h
  split at h <;> simp [sameV] at h ⊢
  exact (bytes_beq _ _).2 rfl

theorem sameVs_self : ∀ {ks : List Nat} {xs ys : List Value} {b : Bool}, sameVs ks xs ys = some b → sameVs ks xs xs = some true
  | [], [], [], _, _ => rfl
  | k :: ks, a :: xs, c :: ys, b, h => by
    simp only [sameVs, Option.bind_eq_some_iff, Option.map_eq_some_iff] at h
    obtain ⟨p, hp, q, hq, _⟩ := h
    simp [sameVs, sameV_self hp, sameVs_self hq]
  | [], [], _ :: _, _, h => by simp [sameVs] at h
  | [], _ :: _, _, _, h => by simp [sameVs] at h
  | _ :: _, [], _, _, h => by simp [sameVs] at h
  | _ :: _, _ :: _, [], _, h => by simp [sameVs] at h

theorem sameVs_drop {ks ks' : List Nat} {xs : List Value} {b : Bool} (h : sameVs (ks ++ ks') xs xs = some b) :
    ∃ p q, sameVs ks (xs.take ks.length) (xs.take ks.length) = some p ∧ sameVs ks' (xs.drop ks.length) (xs.drop ks.length) = some q := by
  obtain ⟨p, q, h1, h2, _⟩ := sameVs_append h
  exact ⟨p, q, h1, h2⟩

theorem check_flat (em : Bool) : ∀ (d : Nat) (t : TypeId) (ks : List Nat), flatTy P d t = some ks → ∀ (D : Nat), d ≤ D → ∀ (xs : List Value) (b : Bool), sameVs ks xs xs = some b → ∀ w : World,
    (Instr.checkKey em D t (ofCells P t xs)).run P w = .ok () w
  | 0, t, ks, h => by simp [flatTy] at h
  | d + 1, t, ks, h => by
    intro D hD xs b hs w
    obtain ⟨D, rfl⟩ : ∃ D', D = D' + 1 := ⟨D - 1, by omega⟩
    have hD' : d ≤ D := by omega
    obtain ⟨hx, _⟩ := sameVs_len hs
    obtain ⟨i, u, hi, hu, hsz, hc'⟩ := flatTy_info h
    unfold flatTy at h
    simp only [hi, hu] at h
    have scalar : ∀ q, ks = [q] → aggD u = false → ∃ x, ofCells P t xs = x ∧ sameV q x x = some true := by
      intro q hq hg
      subst hq
      match xs, hx with
      | [x], _ =>
        have := sameVs_self hs
        simp [sameVs] at this
        exact ⟨x, by simp [ofCells, hu, hg], this⟩
    cases u with
    | bool =>
      simp at h
      obtain ⟨x, e1, e3⟩ := scalar 0 h.2.symm rfl
      rw [e1, Instr.checkKey]
      cases x <;> simp [sameV] at e3
      simp [run_underlying hu]
    | int q =>
      simp at h
      obtain ⟨x, e1, e3⟩ := scalar 1 h.2.symm rfl
      rw [e1, Instr.checkKey]
      cases x <;> simp [sameV] at e3
      simp [run_underlying hu]
    | string =>
      simp at h
      obtain ⟨x, e1, e3⟩ := scalar 2 h.2.symm rfl
      rw [e1, Instr.checkKey]
      cases x <;> simp [sameV] at e3
      simp [run_underlying hu]
    | struct fs =>
      simp only [Bool.and_eq_true, Bool.not_eq_true', Option.ite_none_right_eq_some, Option.bind_eq_some_iff, beq_iff_eq] at h
      obtain ⟨_, ks', h2, h3⟩ := h
      have hks : ks' = ks ∧ ks'.length = i.size := ⟨Option.some.inj h3.2, h3.1⟩
      obtain ⟨rfl, h3⟩ := hks
      have e1 : ofCells P t xs = .agg xs.toArray := by simp [ofCells, hu, aggD]
      rw [e1, Instr.checkKey]
      simp only [Sem.run_bind, run_underlying hu, Result.andThen_ok]
      rw [← Array.forIn_toList]
      have go : ∀ (l : List Field) (n : Nat) (qs : List Nat) (b : Bool), flatFields (flatTy P d) n l = some qs → n + qs.length = xs.length →
          sameVs qs (xs.drop n) (xs.drop n) = some b → (forIn l PUnit.unit fun f _ => do
            if f.name ≠ "_" then
              Instr.checkKey em D f.type (← part f.type xs.toArray f.offset)
              pure (ForInStep.yield PUnit.unit)
            else pure (ForInStep.yield PUnit.unit) : Sem PUnit).run P w = .ok PUnit.unit w := by
        intro l
        induction l with
        | nil => intro n qs b _ _ _; simp
        | cons f l ih =>
          intro n qs b hf hn hb
          simp only [flatFields, Bool.and_eq_true, bne_iff_ne, ne_eq, beq_iff_eq, Option.ite_none_right_eq_some, Option.bind_eq_some_iff, Option.map_eq_some_iff] at hf
          obtain ⟨⟨hnm, hoff⟩, k1, hk1, k2, hk2, rfl⟩ := hf
          obtain ⟨fi, fu, hfi, hfu, hfs, _⟩ := flatTy_info hk1
          obtain ⟨p, q, hp, hq⟩ := sameVs_drop hb
          have hlen := sameVs_len hb
          simp only [List.length_append, List.length_drop] at hn hlen
          have p1 := run_part_of hfu hfs xs.toArray n (by simp; omega) w
          have hcmp := check_flat em d f.type k1 hk1 D hD' _ p hp w
          rw [List.drop_drop] at hq
          have hrest := ih (n + k1.length) k2 q hk2 (by omega) hq
          simp only [List.forIn_cons, Sem.run_bind, hnm, ne_eq, not_false_eq_true, if_true, hoff, p1, hcmp, Result.andThen_ok, Sem.run_pure]
          exact hrest
      rw [go fs.toList 0 ks' b h2 (by omega) (by simpa using hs)]
      rfl
    | array n e =>
      simp only [Bool.not_eq_true', Option.ite_none_right_eq_some, Option.bind_eq_some_iff] at h
      obtain ⟨_, ke, h2, h3⟩ := h
      have hks : (List.replicate n ke).flatten = ks ∧ n * ke.length = i.size := ⟨Option.some.inj h3.2, by simpa using h3.1⟩
      obtain ⟨rfl, h3⟩ := hks
      have e1 : ofCells P t xs = .agg xs.toArray := by simp [ofCells, hu, aggD]
      obtain ⟨ei, eu, hei, heu, hes, hec⟩ := flatTy_info h2
      rw [e1, Instr.checkKey]
      simp only [Sem.run_bind, run_underlying hu, Result.andThen_ok]
      simp only [Std.Legacy.Range.forIn_eq_forIn_range', Std.Legacy.Range.size, Nat.sub_zero, Nat.add_one_sub_one, Nat.div_one]
      have go : ∀ (m j : Nat) (b : Bool), j + m = n → sameVs (List.replicate m ke).flatten (xs.drop (j * ke.length)) (xs.drop (j * ke.length)) = some b →
          (forIn (List.range' j m) PUnit.unit fun i _ => do
            Instr.checkKey em D e (← part e xs.toArray (i * (← sizeOf e)))
            pure (ForInStep.yield PUnit.unit) : Sem PUnit).run P w = .ok PUnit.unit w := by
        intro m
        induction m with
        | zero => intro j b _ _; simp
        | succ m ih =>
          intro j b hj hb
          rw [List.replicate_succ, List.flatten_cons] at hb
          obtain ⟨p, q, hp, hq⟩ := sameVs_drop hb
          have hlen := sameVs_len hb
          simp only [List.length_append, List.length_drop] at hlen
          have p1 := run_part_of heu hes xs.toArray (j * ke.length) (by
            by_cases hz : ke.length = 0
            · simp [hz]
            · simp; omega) w
          have hcmp := check_flat em d e ke h2 D hD' _ p hp w
          rw [List.drop_drop, ← Nat.add_one_mul] at hq
          have hrest := ih (j + 1) q (by omega) hq
          simp only [List.range'_succ, List.forIn_cons, Sem.run_bind, run_sizeOf' hes, p1, hcmp, Result.andThen_ok, Sem.run_pure]
          exact hrest
      rw [go n 0 b (by omega) (by simpa using hs)]
      rfl
    | _ => simp at h

theorem sameBits_flat : ∀ {ks : List Nat} {xs ys : List Value}, sameVs ks xs ys = some true → ∀ n, xs.length = ys.length ∧ ∀ p ∈ xs.zip ys, Instr.sameBits n p.1 p.2 = true
  | [], [], [], _, n => ⟨rfl, by simp⟩
  | k :: ks, a :: xs, c :: ys, h, n => by
    simp only [sameVs, Option.bind_eq_some_iff, Option.map_eq_some_iff] at h
    obtain ⟨p, hp, q, hq, he⟩ := h
    simp only [Bool.and_eq_true] at he
    obtain ⟨rfl, rfl⟩ := he
    obtain ⟨h1, h2⟩ := sameBits_flat hq n
    refine ⟨by simp [h1], ?_⟩
    intro r hr
    simp only [List.zip_cons_cons, List.mem_cons] at hr
    rcases hr with rfl | hr
    · unfold sameV at hp
      split at hp <;> simp at hp
      · subst hp; unfold Instr.sameBits; simp
      · obtain ⟨rfl, rfl⟩ := hp; unfold Instr.sameBits; simp
      · have := (bytes_beq _ _).1 hp; subst this; unfold Instr.sameBits; simpa using hp
    · exact h2 r hr
  | [], [], _ :: _, h, _ => by simp [sameVs] at h
  | [], _ :: _, _, h, _ => by simp [sameVs] at h
  | _ :: _, [], _, h, _ => by simp [sameVs] at h
  | _ :: _, _ :: _, [], h, _ => by simp [sameVs] at h

theorem run_keyStays {ks : List Nat} {t : TypeId} {d : Nat} (ht : flatTy P d t = some ks) {xs ys : List Value} (h : sameVs ks xs ys = some true) (w : World) :
    (Instr.keyThatStays (ofCells P t xs) (ofCells P t ys)).run P w = .ok (ofCells P t ys) w := by
  have : Instr.sameBits 10000 (ofCells P t xs) (ofCells P t ys) = true := by
    obtain ⟨i, u, hi, hu, hsz, _⟩ := flatTy_info ht
    unfold ofCells
    simp only [hu]
    by_cases hg : aggD u = true
    · simp only [hg, if_true]
      obtain ⟨h1, h2⟩ := sameBits_flat h 9999
      rw [show (10000 : Nat) = 9999 + 1 from rfl, Instr.sameBits]
      · simp only [Bool.and_eq_true, beq_iff_eq, List.all_eq_true]
        exact ⟨by simpa using h1, fun p hp => h2 p (by simpa using hp)⟩
    · have hg' : aggD u = false := by simpa using hg
      simp only [hg', Bool.false_eq_true, if_false]
      obtain ⟨_, _, _, _, _, _, hk1⟩ := sizeAgg_spec (hg' ▸ hsz)
      have hk1 := hk1 rfl
      obtain ⟨l1, l2⟩ := sameVs_len h
      match xs, ys, (l1.trans hk1), (l2.trans hk1) with
      | [x], [y], _, _ =>
        exact (sameBits_flat h 10000).2 (x, y) (by simp)
  simp [Instr.keyThatStays, this]

/-- A key's machine value. -/
theorem VRel.ofKey {bl : List Nat} {π : Nat → Nat → Prop} {ks : Bool × List Nat} {t : TypeId} (ht : keyT P t = some ks) {p q : PV} {v : Value} {b : Bool} (h : VRel w bl π p v) (he : keyEq ks p q = some b) :
    ∃ us vs, v = ofCells P t us ∧ p.cells = us.map .v ∧ q.cells = vs.map .v ∧ sameVs ks.2 us vs = some b := by
  simp only [keyT, Option.bind_eq_some_iff, Option.map_eq_some_iff] at ht
  obtain ⟨ks', hf, g, hg, rfl⟩ := ht
  obtain ⟨i, u, hi, hu, hsz, _⟩ := flatTy_info hf
  simp only [aggT, hu, Option.map_some, Option.some.injEq] at hg
  subst hg
  unfold keyEq at he
  split at he
  · rename_i hg
    simp only at hg he
    obtain ⟨us, vs, rfl, rfl, h3⟩ := eqCells_vals he
    exact ⟨us, vs, by rw [h.aggVals]; simp [ofCells, hu, hg], rfl, rfl, h3⟩
  · rename_i hg
    simp only at hg he
    obtain ⟨us, vs, e1, e2, h3⟩ := eqCells_vals he
    match us, e1 with
    | [a'], e1 =>
      simp only [List.map_cons, List.map_nil, List.cons.injEq, PV.v.injEq, and_true] at e1
      subst e1
      cases h
      exact ⟨[_], vs, by simp [ofCells, hu, hg], rfl, by rw [← e2]; rfl, h3⟩
    | [], e1 => simp at e1
    | _ :: _ :: _, e1 => simp at e1
  · cases he

theorem keyT_flat {t : TypeId} {ks : Bool × List Nat} (ht : keyT P t = some ks) : flatTy P 20 t = some ks.2 := by
  simp only [keyT, Option.bind_eq_some_iff, Option.map_eq_some_iff] at ht
  obtain ⟨ks', hf, g, hg, rfl⟩ := ht
  exact hf

theorem sameV_right {k : Nat} {a b : Value} {r : Bool} (h : sameV k a b = some r) : sameV k b b = some true := by
  unfold sameV at h
  split at h <;> simp [sameV] at h ⊢
  exact (bytes_beq _ _).2 rfl

theorem eqCells_left : ∀ {ks : List Nat} {xs ys : List PV} {b : Bool}, eqCells ks xs ys = some b → eqCells ks xs xs = some true ∧ eqCells ks ys ys = some true
  | [], [], [], _, _ => ⟨rfl, rfl⟩
  | k :: ks, x :: xs, y :: ys, b, h => by
    cases x <;> cases y <;> simp only [eqCells, reduceCtorEq] at h
    simp only [Option.bind_eq_some_iff, Option.map_eq_some_iff] at h
    obtain ⟨p, hp, q, hq, _⟩ := h
    obtain ⟨i1, i2⟩ := eqCells_left hq
    exact ⟨by simp [eqCells, sameV_self hp, i1], by simp [eqCells, sameV_right hp, i2]⟩
  | [], [], _ :: _, _, h => by simp [eqCells] at h
  | [], _ :: _, _, _, h => by simp [eqCells] at h
  | _ :: _, [], _, _, h => by simp [eqCells] at h
  | _ :: _, x :: _, [], _, h => by cases x <;> simp [eqCells] at h

theorem keyEq_self {ks : Bool × List Nat} {p q : PV} {b : Bool} (h : keyEq ks p q = some b) : keyEq ks p p = some true ∧ keyEq ks q q = some true := by
  obtain ⟨g, ks⟩ := ks
  unfold keyEq at h ⊢
  split at h
  · rename_i hg
    simp only at hg
    subst hg
    exact eqCells_left h
  · rename_i hg
    simp only at hg
    subst hg
    exact eqCells_left h
  · cases h

/-- Looking for a key among entries. -/
theorem run_find {bl : List Nat} {π : Nat → Nat → Prop} {ks : Bool × List Nat} {t : TypeId} (ht : keyT P t = some ks) {k : PV} {kv : Value} (hk : VRel w bl π k kv) : ∀ {es : List (PV × PV × Nat)} {l : List MapEntry} {o : Option Nat} (n : Nat),
    findK ks k es = some o → l.length = es.length → (∀ (i : Nat) (e : PV × PV × Nat) (m : MapEntry), es[i]? = some e → l[i]? = some m → VRel w bl π e.1 m.key) →
    (Instr.findAsking t kv l n).run P w = .ok (o.bind fun i => (l[i]?).map fun m => (n + i, m.val)) w
  | [], l, o, n, hf, hl, _ => by
    simp [findK] at hf
    subst hf
    match l, hl with
    | [], _ => simp [Instr.findAsking]
  | e :: es, l, o, n, hf, hl, hr => by
    match l, hl with
    | m :: l, hl =>
      simp only [findK, Option.bind_eq_some_iff] at hf
      obtain ⟨b, hb, hf⟩ := hf
      obtain ⟨us, vs, rfl, h1, h2, h3⟩ := hk.ofKey ht hb
      have hm := hr 0 e m rfl rfl
      have hb' : ∃ vs', m.key = ofCells P t vs' ∧ e.1.cells = vs'.map .v := by
        obtain ⟨us', vs', g1, g2, _, _⟩ := hm.ofKey ht (keyEq_self hb).2
        exact ⟨us', g1, g2⟩
      obtain ⟨vs', g1, g2⟩ := hb'
      have hv : vs' = vs := by
        have := g2.symm.trans h2
        exact (List.map_inj_right (fun a b h => by cases h; rfl)).1 this
      subst hv
      have heq := flat_eq 20 t ks.2 (keyT_flat ht) Op.maxDepth (by decide) us vs' b h3 w
      rw [← g1] at heq
      have heq' : (Op.equal t (ofCells P t us) m.key).run P w = .ok b w := heq
      rw [Instr.findAsking]
      simp only [Sem.run_bind, heq', Result.andThen_ok]
      cases b with
      | true =>
        simp at hf
        subst hf
        simp
      | false =>
        simp only [Bool.false_eq_true, if_false, Option.map_eq_some_iff] at hf ⊢
        obtain ⟨o', ho', rfl⟩ := hf
        rw [run_find ht hk (n + 1) ho' (by simpa using hl) (fun i e' m' he hm' => hr (i + 1) e' m' (by simpa using he) (by simpa using hm'))]
        cases o' with
        | none => rfl
        | some i => simp [Nat.add_assoc, Nat.add_comm 1]

end
end Go.Pi
/- Maps: the operations that only look. -/
namespace Go.Pi
open Go.RowKit Go.MapKept

section
variable {P : Program} {E : Ent} {s : St} {bl : List Nat} {π : Nat → Nat → Prop} {om : Loc → Option Nat} {a : Act} {w : World}

theorem zeroPV_rel {t : TypeId} {z : PV} (h : zeroPV P t = some z) : ∃ i v, P.info? t = some i ∧ i.zero = some v ∧ NoOwn z ∧ ∀ (w : World) (bl : List Nat) (π : Nat → Nat → Prop), VRel w bl π z v := by
  simp only [zeroPV, Option.bind_eq_some_iff] at h
  obtain ⟨v, ⟨i, hi, hz⟩, hm⟩ := h
  refine ⟨i, v, hi, hz, ?_⟩
  have key : ∀ (l : List Value) (z : List PV), l.mapM constPV = some z → l.length = z.length ∧ ∀ (i : Nat) (p : PV) (u : Value), z[i]? = some p → l[i]? = some u → constPV u = some p := by
    intro l
    induction l with
    | nil => intro z hz; simp at hz; subst hz; exact ⟨rfl, fun i p u h => by simp at h⟩
    | cons x l ih =>
      intro z hz
      simp only [List.mapM_cons, Option.bind_eq_bind, Option.bind_eq_some_iff, Option.pure_def, Option.some.injEq] at hz
      obtain ⟨p, hp, z', hz', rfl⟩ := hz
      obtain ⟨i1, i2⟩ := ih z' hz'
      refine ⟨by simp [i1], fun i q u hq hu => ?_⟩
      cases i with
      | zero => simp at hq hu; subst hq; subst hu; exact hp
      | succ i => simp at hq hu; exact i2 i q u hq hu
  split at hm
  · rename_i cs
    simp only [Option.map_eq_some_iff] at hm
    obtain ⟨l, hl, rfl⟩ := hm
    obtain ⟨k1, k2⟩ := key _ _ hl
    exact ⟨.of (fun _ e => by cases e), fun w bl π => .agg (by simpa using k1) (fun i p u hp hu => constRel (k2 i p u hp (by simpa using hu)))⟩
  · exact ⟨constPV_own hm, fun w bl π => constRel hm⟩

theorem run_zero {t : TypeId} {i : TypeInfo} {v : Value} (hi : P.info? t = some i) (hz : i.zero = some v) (w : World) : (zeroValue t).run P w = .ok v w := by
  simp [zeroValue, typeInfo, hi, hz]

/-- An object that is a map. -/
theorem Rel.mapObj (h : Rel E s bl π om a w) {id b clock : Nat} {es : List (PV × PV × Nat)} (hg : s.H[id]? = some (.map clock es)) (hb : bl[id]? = some b) :
    ∃ arr, w.heap[b]? = some (.map arr clock) ∧ arr.size = es.length ∧
      ∀ (i : Nat) (kv : PV × PV × Nat) (e : MapEntry), es[i]? = some kv → arr[i]? = some e → VRel w bl π kv.1 e.key ∧ VRel w bl π kv.2.1 e.val ∧ e.born = kv.2.2 := by
  exact h.ob id _ b hg hb

def isRow : Obj → Bool
  | .cells .. | .pending .. | .view .. | .number .. => true
  | _ => false

theorem run_getObj_at {b : Nat} {o : Obj} (h : w.heap[b]? = some o) (hn : isRow o = false := by rfl) : (getObj b).run P w = .ok o w := by
  cases o <;> simp [isRow] at hn <;> simp [getObj, Sem.run, h]

/-- Looking for a key, by whatever road. -/
theorem run_findKey' {ks : Bool × List Nat} {t : TypeId} (ht : keyT P t = some ks) {k : PV} {kv : Value} (hk : VRel w bl π k kv) {es : List (PV × PV × Nat)} {l : List MapEntry} {o : Option Nat}
    (hf : findK ks k es = some o) (hl : l.length = es.length) (hr : ∀ (i : Nat) (e : PV × PV × Nat) (m : MapEntry), es[i]? = some e → l[i]? = some m → VRel w bl π e.1 m.key) :
    (Instr.findKey t kv l).run P w = .ok (o.bind fun i => (l[i]?).map fun m => (i, m.val)) w := by
  obtain ⟨i, u, hi, hu, hsz, _⟩ := flatTy_info (keyT_flat ht)
  have hfind := run_find ht hk 0 hf hl hr
  unfold Instr.findKey
  simp only [Sem.run_bind, run_underlying hu, Result.andThen_ok]
  have now : ∀ (es : List (PV × PV × Nat)) (l : List MapEntry) (o : Option Nat) (n : Nat) (r : Option (Nat × Value)), findK ks k es = some o → l.length = es.length →
      (∀ (i : Nat) (e : PV × PV × Nat) (m : MapEntry), es[i]? = some e → l[i]? = some m → VRel w bl π e.1 m.key) → Instr.findNow u kv l n = some r → r = o.bind fun i => (l[i]?).map fun m => (n + i, m.val) := by
    intro es
    induction es with
    | nil =>
      intro l o n r hf hl _ hn
      match l, hl with
      | [], _ =>
        simp [findK] at hf
        simp [Instr.findNow] at hn
        subst hf; subst hn; rfl
    | cons e es ih =>
      intro l o n r hf hl hr hn
      match l, hl with
      | m :: l, hl =>
        simp only [findK, Option.bind_eq_some_iff] at hf
        obtain ⟨b, hb, hf⟩ := hf
        obtain ⟨us, vs, rfl, h1, h2, h3⟩ := hk.ofKey ht hb
        have hm := hr 0 e m rfl rfl
        obtain ⟨vs', _, g1, g2, _, _⟩ := hm.ofKey ht (keyEq_self hb).2
        have hv : vs' = vs := (List.map_inj_right (fun a b h => by cases h; rfl)).1 (g2.symm.trans h2)
        subst hv
        have hs : ∀ b', Instr.sameNow u (ofCells P t us) m.key = some b' → b' = b := by
          intro b' hb'
          rw [g1] at hb'
          unfold ofCells at hb'
          simp only [hu] at hb'
          by_cases hg : aggD u = true
          · simp only [hg, if_true] at hb'
            cases u <;> simp [aggD] at hg <;> simp [Instr.sameNow] at hb'
          · have hg' : aggD u = false := by simpa using hg
            simp only [hg', Bool.false_eq_true, if_false] at hb'
            obtain ⟨_, _, _, _, _, _, hk1⟩ := sizeAgg_spec (hg' ▸ hsz)
            have hk1 := hk1 rfl
            obtain ⟨l1, l2⟩ := sameVs_len h3
            match us, vs', (l1.trans hk1), (l2.trans hk1) with
            | [x], [y], _, _ =>
              match hks : ks.2, hk1 with
              | [q], _ =>
                rw [hks] at h3
                simp [sameVs] at h3
                simp only [List.headD_cons] at hb'
                unfold sameV at h3
                split at h3 <;> cases u <;> simp [Instr.sameNow] at hb' <;> simp at h3
                · rw [← h3, ← hb']
                · rw [← h3.2, ← hb'.2]
                · rw [← h3, ← hb']
        simp only [Instr.findNow] at hn
        split at hn
        · rename_i hb'
          have := hs _ hb'
          subst this
          simp at hf hn
          subst hf; subst hn; simp
        · rename_i hb'
          have := hs _ hb'
          subst this
          simp only [Bool.false_eq_true, if_false, Option.map_eq_some_iff] at hf
          obtain ⟨o', ho', rfl⟩ := hf
          have := ih l o' (n + 1) r ho' (by simpa using hl) (fun i e' m' he hm' => hr (i + 1) e' m' (by simpa using he) (by simpa using hm')) hn
          rw [this]
          cases o' with
          | none => rfl
          | some i => simp [Nat.add_assoc, Nat.add_comm 1]
        · cases hn
  split
  · rename_i r hn
    have := now es l o 0 r hf hl hr hn
    subst this
    simp
  · rw [hfind]
    simp

theorem run_check {ks : Bool × List Nat} {t : TypeId} (ht : keyT P t = some ks) {k : PV} {kv : Value} (hk : VRel w bl π k kv) {b : Bool} (he : keyEq ks k k = some b) (em : Bool) (w' : World) : (Instr.checkKey em 10000 t kv).run P w' = .ok () w' := by
  obtain ⟨us, vs, rfl, h1, h2, h3⟩ := hk.ofKey ht he
  exact check_flat em 20 t ks.2 (keyT_flat ht) 10000 (by decide) us true (sameVs_self h3) w'

theorem gives_lookup (h : Rel E s bl π om a w) {o : Oper} {t kt e : TypeId} {ks : Bool × List Nat} {z : PV} {ok : Bool} {m k : Operand} {m' k' : Arg} {p : PV} (ho : o.op = .lookup t m k ok) (hu : P.underlying t = some (.map kt e)) (hks : keyT P kt = some ks) (hz : zeroPV P e = some z)
    (hm : argOf m = some m') (hk : argOf k = some k') (hp : lookPV s.H ks z ok (s.arg m') (s.arg k') = some p) : Gives P E s bl π a w o p := by
  have hmr := h.arg hm
  have hkr := h.arg hk
  obtain ⟨zi, zv, hzi, hzv, hzo, hzr⟩ := zeroPV_rel hz
  simp only [lookPV, Option.bind_eq_some_iff] at hp
  obtain ⟨es, hes, hp⟩ := hp
  split at hp
  · rename_i hself
    obtain ⟨bself, hself⟩ := Option.isSome_iff_exists.1 hself
    simp only [Option.map_eq_some_iff] at hp
    obtain ⟨fo, hfo, hp⟩ := hp
    -- the entries
    have hent : ∃ arr : Array MapEntry, ((a.eval m = .map none ∧ arr = #[]) ∨ ∃ b clock, a.eval m = .map (some b) ∧ w.heap[b]? = some (.map arr clock)) ∧ arr.size = es.length ∧
        ∀ (i : Nat) (kv : PV × PV × Nat) (e : MapEntry), es[i]? = some kv → arr[i]? = some e → VRel w bl π kv.1 e.key ∧ VRel w bl π kv.2.1 e.val ∧ e.born = kv.2.2 := by
      generalize s.arg m' = mp at hmr hes
      generalize a.eval m = mv at hmr
      unfold mapOf at hes
      split at hes
      · cases hes
        cases hmr
        exact ⟨#[], .inl ⟨rfl, rfl⟩, rfl, fun i kv e hi => by simp at hi⟩
      · split at hes
        · rename_i hg
          cases hes
          cases hmr with
          | map hb =>
            obtain ⟨arr, e1, e2, e3⟩ := h.mapObj hg hb
            exact ⟨arr, .inr ⟨_, _, rfl, e1⟩, e2, e3⟩
        · cases hes
      · cases hes
    obtain ⟨arr, r1, r2, r3⟩ := hent
    have r4 := run_check hks hkr hself arr.isEmpty w
    have r5 := run_findKey' (l := arr.toList) hks hkr hfo (by simpa using r2) (fun i e' m' he hm' => (r3 i e' m' he (by simpa using hm')).1)
    have hrun : (Instr.lookup t (a.eval m) (a.eval k) ok).run P w = .ok (if ok then .tuple #[(((fo.bind fun i => arr[i]?.map (·.val))).getD zv), .bool (fo.bind fun i => arr[i]?.map (·.val)).isSome] else ((fo.bind fun i => arr[i]?.map (·.val))).getD zv) w := by
      unfold Instr.lookup
      simp only [Sem.run_bind, run_underlying hu, Result.andThen_ok]
      rcases r1 with ⟨r1, rfl⟩ | ⟨b, clock, r1, r1'⟩
      · rw [r1]
        have r4' : (Instr.checkKey true 10000 kt (a.eval k)).run P w = .ok () w := r4
        have r5' : (Instr.findKey kt (a.eval k) []).run P w = .ok none w := by
          have : (Instr.findKey kt (a.eval k) []).run P w = _ := r5
          rw [this]
          cases fo <;> simp
        simp [r4', r5', run_zero hzi hzv]
      · rw [r1]
        simp only [Sem.run_bind, run_getObj_at r1', Sem.run_pure, Result.andThen_ok, r4, r5]
        cases fo with
        | none => simp [run_zero hzi hzv]
        | some i =>
          cases hai : arr[i]? with
          | none => simp [hai, run_zero hzi hzv]
          | some me => simp [hai]
    have hrel : VRel w bl π ((fo.bind fun i => es[i]?.map (·.2.1)).getD z).strip (((fo.bind fun i => arr[i]?.map (·.val))).getD zv) ∧ (fo.bind fun i => es[i]?.map (·.2.1)).isSome = (fo.bind fun i => arr[i]?.map (·.val)).isSome := by
      cases fo with
      | none => exact ⟨(hzr w bl π).strip, rfl⟩
      | some i =>
        by_cases hi : i < es.length
        · obtain ⟨me, hme⟩ : ∃ me, arr[i]? = some me := ⟨_, Array.getElem?_eq_getElem (by omega)⟩
          have hei : es[i]? = some es[i] := List.getElem?_eq_getElem hi
          simp only [Option.bind_some, hei, hme, Option.map_some, Option.getD_some, Option.isSome_some, and_true]
          exact (r3 i _ me hei hme).2.1.strip
        · rw [Option.bind_some, Option.bind_some, List.getElem?_eq_none (by omega), Array.getElem?_eq_none (by omega)]
          exact ⟨(hzr w bl π).strip, rfl⟩
    refine ⟨_, by simp only [execOp, ho, Sem.run_bind, hrun, Result.andThen_ok, Sem.run_pure]; rfl, ?_⟩
    cases ok with
    | true =>
      simp only [if_true] at hp ⊢
      subst hp
      refine .plain (.tup rfl (fun i q u hq hu => ?_)) (.of fun _ e => by cases e)
      match i with
      | 0 => simp at hq hu; subst hq; subst hu; simpa using hrel.1
      | 1 => simp at hq hu; subst hq; subst hu; rw [← hrel.2]; exact .v rfl
      | i + 2 => simp at hq
    | false =>
      simp only [Bool.false_eq_true, if_false] at hp ⊢
      subst hp
      exact .plain hrel.1 (PV.strip_ne _)
  · cases hp

theorem gives_mlen (h : Rel E s bl π om a w) {o : Oper} {c : Call} {t : TypeId} {x : Operand} {x' : Arg} {p : PV} (ho : o.op = .call c) (hcal : c.callee = .builtin .len) (ht : c.argTypes[0]? = some t) (hx : c.args.toList = [x]) (ha : argOf x = some x')
    (hd : isMapT P t = true) (hp : (PO.mlen x').val s = some p) : Gives P E s bl π a w o p := by
  obtain ⟨kt, e, hu⟩ : ∃ kt e, P.underlying t = some (.map kt e) := by
    unfold isMapT at hd
    split at hd
    · exact ⟨_, _, by assumption⟩
    · cases hd
  have hargs : c.args = #[x] := by
    apply Array.ext'
    simpa using hx
  simp only [PO.val, Option.map_eq_some_iff] at hp
  obtain ⟨es, hes, rfl⟩ := hp
  have hmr := h.arg ha
  generalize s.arg x' = mp at hmr hes
  generalize hv : a.eval x = mv at hmr
  unfold mapOf at hes
  split at hes
  · cases hes
    cases hmr
    exact ⟨.int .i64 0, by simp [execOp, ho, resolve, hcal, invoke, builtin, Builtin.len_, ht, hargs, hv, run_underlying hu, goInt], plain_v rfl⟩
  · split at hes
    · rename_i hg
      cases hes
      cases hmr with
      | map hb =>
        obtain ⟨arr, e1, e2, e3⟩ := h.mapObj hg hb
        refine ⟨.int .i64 es.length, ?_, plain_v rfl⟩
        simp [execOp, ho, resolve, hcal, invoke, builtin, Builtin.len_, ht, hargs, hv, run_underlying hu, goInt, run_getObj_at e1, e2]
    · cases hes
  · cases hes

theorem gives_mcur (h : Rel E s bl π om a w) {o : Oper} {x : Operand} {x' : Arg} {p : PV} (ho : o.op = .entry x) (ha : argOf x = some x') (hp : mcurPV s.H (s.arg x') = some p) : Gives P E s bl π a w o p := by
  have hxr := h.arg ha
  unfold mcurPV at hp
  split at hp
  · rename_i id hqa
    rw [hqa] at hxr
    split at hp
    · rename_i m since seen last hg
      split at hp
      · rename_i clock es hg2
        split at hp
        · rename_i hcl
          simp only [Option.bind_eq_some_iff, Option.map_eq_some_iff] at hp
          obtain ⟨st, hst, e, he, rfl⟩ := hp
          generalize hv : a.eval x = xv at hxr
          cases hxr with
          | ptr hb =>
            rename_i b
            obtain ⟨mb, e1, e2⟩ := h.ob id _ b hg hb
            simp only [iterPV] at e2
            cases e2 with
            | map hmb =>
              rename_i mb
              obtain ⟨arr, f1, f2, f3⟩ := h.mapObj hg2 hmb
              have hfind : ∃ me, arr.find? (·.born == st) = some me ∧ VRel w bl π e.1 me.key ∧ VRel w bl π e.2.1 me.val := by
                have key : ∀ (l : List MapEntry) (es : List (PV × PV × Nat)), l.length = es.length → (∀ (i : Nat) (kv : PV × PV × Nat) (e : MapEntry), es[i]? = some kv → l[i]? = some e → VRel w bl π kv.1 e.key ∧ VRel w bl π kv.2.1 e.val ∧ e.born = kv.2.2) →
                    es.find? (fun e => e.2.2 == st) = some e → ∃ me, l.find? (·.born == st) = some me ∧ VRel w bl π e.1 me.key ∧ VRel w bl π e.2.1 me.val := by
                  intro l
                  induction l with
                  | nil => intro es hl _ hf; match es, hl with | [], _ => simp at hf
                  | cons x l ih =>
                    intro es hl hr hf
                    match es, hl with
                    | y :: es, hl =>
                      obtain ⟨g1, g2, g3⟩ := hr 0 y x rfl rfl
                      rw [List.find?_cons] at hf ⊢
                      rw [g3]
                      cases hc : y.2.2 == st with
                      | true => rw [hc] at hf; simp at hf; subst hf; exact ⟨x, by simp, g1, g2⟩
                      | false => rw [hc] at hf; simpa using ih es (by simpa using hl) (fun i kv e hi he => hr (i + 1) kv e (by simpa using hi) (by simpa using he)) hf
                obtain ⟨me, g1, g2⟩ := key arr.toList es (by simpa using f2) (fun i kv e hi he => f3 i kv e hi (by simpa using he)) he
                exact ⟨me, by simpa using g1, g2⟩
              obtain ⟨me, g1, g2, g3⟩ := hfind
              refine ⟨.tuple #[me.key, me.val], ?_, .plain (.tup rfl (fun i q u hq hu => ?_)) (.of fun _ e => by cases e)⟩
              · have hback : seen.toArray.back? = some st := by simpa [List.getLast?_eq_getElem?, Array.back?] using hst
                simp [execOp, ho, hv, Instr.entry, run_getObj_at e1, run_getObj_at f1, hback, hcl, g1]
              · match i with
                | 0 => simp at hq hu; subst hq; subst hu; exact g2
                | 1 => simp at hq hu; subst hq; subst hu; exact g3
                | i + 2 => simp at hq
        · cases hp
      · cases hp
    · cases hp
  · cases hp

end
end Go.Pi
/- All operations that only reckon and read, by one word. -/
namespace Go.Pi
open Go.RowKit

section
variable {P : Program} {E : Ent} {s : St} {bl : List Nat} {π : Nat → Nat → Prop} {om : Loc → Option Nat} {a : Act} {w : World}

/-- A value that takes memory. -/
def PO.grows : PO → Bool
  | .boxF _ | .allocF _ | .nilsl | .tobytes _ => true
  | _ => false

theorem valSound (h : Rel E s bl π om a w) {pures : List Nat} {ops : Array Oper} {o : Oper} {po : PO} {p : PV} (hgr : po.grows = false) (hc : compOp P pures ops o = some po) (hp : po.val s = some p) : Gives P E s bl π a w o p := by
  replace hc := (compOp_spec hc).1
  unfold compOp0 at hc
  split at hc
  · -- move
    rename_i x ho
    split at hc
    · split at hc
      · cases hc; cases hp
      · cases hc; cases hp; exact gives_copy (y := .t _) h (.inl ho) rfl
    · simp only [Option.map_eq_some_iff] at hc
      obtain ⟨y, hy, rfl⟩ := hc
      cases hp
      exact gives_copy h (.inl ho) hy
  · -- assign
    rename_i x ho
    split at hc
    · split at hc
      · cases hc; cases hp
      · cases hc; cases hp; exact gives_copy (y := .t _) h (.inr ho) rfl
    · simp only [Option.map_eq_some_iff] at hc
      obtain ⟨y, hy, rfl⟩ := hc
      cases hp
      exact gives_copy h (.inr ho) hy
  · -- pick
    rename_i c x y ho
    simp only [Option.bind_eq_bind, Option.bind_eq_some_iff] at hc
    obtain ⟨c', h1, x', h2, y', h3, hc⟩ := hc
    cases hc
    simp only [PO.val] at hp
    split at hp
    · rename_i t ht
      cases hp
      exact gives_pick h ho h1 h2 h3 ht
    · cases hp
  · -- alloc
    split at hc <;> simp only [Option.map_eq_some_iff] at hc <;> obtain ⟨_, _, rfl⟩ := hc
    · simp [PO.grows] at hgr
    · cases hp
  · -- box
    split at hc <;> simp only [Option.map_eq_some_iff] at hc <;> obtain ⟨_, _, rfl⟩ := hc
    · simp [PO.grows] at hgr
    · cases hp
  · -- load
    rename_i t x ho
    simp only [Option.bind_eq_bind, Option.bind_eq_some_iff] at hc
    obtain ⟨⟨k, g⟩, h1, y, h2, hc⟩ := hc
    split at hc
    · cases hc
      simp only [PO.val] at hp
      split at hp
      · rename_i cs off hqa
        exact gives_load h ho h2 h1 (by rw [hqa]; exact hp)
      · cases hp
    · split at hc
      · cases hc; cases hp
      · cases hc
        exact gives_load h ho h2 h1 hp
  · -- store
    rename_i t p' x ho
    simp only [Option.bind_eq_bind, Option.bind_eq_some_iff] at hc
    obtain ⟨⟨k, g⟩, h1, y, h2, hc⟩ := hc
    split at hc
    · simp only [Option.bind_eq_some_iff] at hc
      obtain ⟨z, h3, hc⟩ := hc
      cases hc; cases hp
    · split at hc
      · split at hc
        · cases hc; cases hp
        · cases hc; cases hp
      · simp only [Option.bind_eq_some_iff] at hc
        obtain ⟨z, h3, hc⟩ := hc
        cases hc; cases hp
  · -- nilCheck
    rename_i x ho
    simp only [Option.map_eq_some_iff] at hc
    obtain ⟨y, hy, rfl⟩ := hc
    exact gives_nilck h ho hy hp
  · -- fieldAddr
    rename_i t x f ho
    split at hc
    · rename_i fs hu
      simp only [Option.bind_eq_bind, Option.bind_eq_some_iff] at hc
      obtain ⟨fd, hf, i, hi, hc⟩ := hc
      split at hc
      · cases hc
      · rename_i hz
        simp only [Option.bind_eq_some_iff] at hc
        obtain ⟨y, hy, hc⟩ := hc
        cases hc
        exact gives_padd h ho hy hu hf hi (by simpa using hz) hp
    · cases hc
  · -- indexAddr
    rename_i t x i ho
    split at hc
    · rename_i n e hu
      simp only [Option.bind_eq_bind, Option.bind_eq_some_iff] at hc
      obtain ⟨j, hj, hc⟩ := hc
      split at hc
      · cases hc
      · simp only [Option.bind_eq_some_iff] at hc
        obtain ⟨y, hy, z, hz, hc⟩ := hc
        cases hc
        exact gives_pidxA h ho hy hz hu hj hp
    · rename_i e hu
      simp only [Option.bind_eq_bind, Option.bind_eq_some_iff] at hc
      obtain ⟨j, hj, hc⟩ := hc
      split at hc
      · cases hc
      · simp only [Option.bind_eq_some_iff] at hc
        obtain ⟨y, hy, z, hz, hc⟩ := hc
        cases hc
        exact gives_pidxS h ho hy hz hu hj hp
    · cases hc
  · -- field
    rename_i t x f ho
    split at hc
    · rename_i fs hu
      simp only [Option.bind_eq_bind, Option.bind_eq_some_iff] at hc
      obtain ⟨fd, hf, ⟨k, g⟩, hk, y, hy, hc⟩ := hc
      cases hc
      exact gives_fld h ho hy hu hf hk hp
    · cases hc
  · -- index
    rename_i t x i ho
    split at hc
    · rename_i n e hu
      simp only [Option.bind_eq_bind, Option.bind_eq_some_iff] at hc
      obtain ⟨⟨k, g⟩, hk, y, hy, z, hz, hc⟩ := hc
      cases hc
      exact gives_idx h ho hy hz hu hk hp
    · rename_i hu
      simp only [Option.bind_eq_bind, Option.bind_eq_some_iff] at hc
      obtain ⟨y, hy, z, hz, hc⟩ := hc
      cases hc
      exact gives_byteAt h ho hy hz hu hp
    · cases hc
  · -- build
    rename_i t parts ho
    split at hc
    · rename_i fs hu
      simp only [Option.bind_eq_bind, Option.bind_eq_some_iff] at hc
      obtain ⟨z, hz, hc⟩ := hc
      split at hc
      · rename_i hall
        simp only [Option.bind_eq_some_iff] at hc
        obtain ⟨ps, hps, hc⟩ := hc
        cases hc
        exact gives_build h ho hz hps (fun zv cs w hzv hf => run_build_struct hu hall _ zv cs w hzv (by simpa using hf)) hp
      · cases hc
    · rename_i n e hu
      simp only [Option.bind_eq_bind, Option.bind_eq_some_iff] at hc
      obtain ⟨z, hz, j, hj, ps, hps, hc⟩ := hc
      cases hc
      exact gives_build h ho hz hps (fun zv cs w hzv hf => run_build_array hu hj _ zv cs w hzv (by simpa using hf)) hp
    · cases hc
  · -- buildSlice
    rename_i t len parts ho
    split at hc
    · simp only [Option.bind_eq_bind, Option.bind_eq_some_iff] at hc
      obtain ⟨j, hj, hc⟩ := hc
      split at hc
      · cases hc; simp [PO.grows] at hgr
      · simp only [Option.bind_eq_some_iff] at hc
        obtain ⟨z, hz, hc⟩ := hc
        split at hc
        · simp only [Option.bind_eq_some_iff] at hc
          obtain ⟨ps, hps, hc⟩ := hc
          cases hc
          cases hp
        · cases hc
    · cases hc
  · -- slice
    rename_i t x lo hi mx ho
    split at hc
    · rename_i e hu
      simp only [Option.bind_eq_bind, Option.bind_eq_some_iff] at hc
      obtain ⟨j, hj, x', hx, lo', hlo, hi', hhi, mx', hmx, hc⟩ := hc
      cases hc
      exact gives_slice h ho hx hlo hhi hmx hu hj hp
    · rename_i hu
      split at hc
      · cases hc
      · rename_i hm
        have : mx = none := by cases mx <;> simp_all
        subst this
        simp only [Option.bind_eq_bind, Option.bind_eq_some_iff] at hc
        obtain ⟨x', hx, lo', hlo, hi', hhi, hc⟩ := hc
        cases hc
        exact gives_sslice h ho hx hlo hhi hu hp
    · cases hc
  · -- binOp
    rename_i op t x y yt ho
    have plain : ∀ {x' y' : Arg}, argOf x = some x' → argOf y = some y' → (PO.bin op x' y').val s = some p → Gives P E s bl π a w o p := fun hx hy hp => gives_bin h ho hx hy hp
    have eqs : ∀ {q : PO}, (op = .eql ∨ op = .neq) →
        (match P.underlying t with
          | some (.int _) | some .string => do some (PO.bin op (← argOf x) (← argOf y))
          | some (.pointer e) => if P.cellsOf e == 0 then none else do some (PO.eqp (isNeq op) 0 (← argOf x) (← argOf y))
          | some (.map _ _) => do some (PO.eqp (isNeq op) 1 (← argOf x) (← argOf y))
          | some (.func _ _ _) => do some (PO.eqp (isNeq op) 2 (← argOf x) (← argOf y))
          | some .bool => do some (PO.eqb (isNeq op) (← argOf x) (← argOf y))
          | some (.struct _) | some (.array _ _) => do some (PO.eqv (isNeq op) (← flatTy P 20 t) (← argOf x) (← argOf y))
          | _ => none) = some q → q.val s = some p → Gives P E s bl π a w o p := by
      intro q hop hc hp
      split at hc
      · simp only [Option.bind_eq_bind, Option.bind_eq_some_iff] at hc
        obtain ⟨x', hx, y', hy, hc⟩ := hc
        cases hc
        exact plain hx hy hp
      · simp only [Option.bind_eq_bind, Option.bind_eq_some_iff] at hc
        obtain ⟨x', hx, y', hy, hc⟩ := hc
        cases hc
        exact plain hx hy hp
      · rename_i e hu
        split at hc
        · cases hc
        · simp only [Option.bind_eq_bind, Option.bind_eq_some_iff] at hc
          obtain ⟨x', hx, y', hy, hc⟩ := hc
          cases hc
          exact gives_eqp h hop ho hx hy hu (.inl ⟨rfl, _, rfl⟩) hp
      · rename_i hu
        simp only [Option.bind_eq_bind, Option.bind_eq_some_iff] at hc
        obtain ⟨x', hx, y', hy, hc⟩ := hc
        cases hc
        exact gives_eqp h hop ho hx hy hu (.inr (.inl ⟨rfl, _, _, rfl⟩)) hp
      · rename_i hu
        simp only [Option.bind_eq_bind, Option.bind_eq_some_iff] at hc
        obtain ⟨x', hx, y', hy, hc⟩ := hc
        cases hc
        exact gives_eqp h hop ho hx hy hu (.inr (.inr ⟨rfl, _, _, _, rfl⟩)) hp
      · rename_i hu
        simp only [Option.bind_eq_bind, Option.bind_eq_some_iff] at hc
        obtain ⟨x', hx, y', hy, hc⟩ := hc
        cases hc
        exact gives_eqb h hop ho hx hy hu hp
      · rename_i hu
        simp only [Option.bind_eq_bind, Option.bind_eq_some_iff] at hc
        obtain ⟨ks, hk, x', hx, y', hy, hc⟩ := hc
        cases hc
        exact gives_eqv h hop ho hx hy hk hu rfl hp
      · rename_i hu
        simp only [Option.bind_eq_bind, Option.bind_eq_some_iff] at hc
        obtain ⟨ks, hk, x', hx, y', hy, hc⟩ := hc
        cases hc
        exact gives_eqv h hop ho hx hy hk hu rfl hp
      · cases hc
    split at hc
    · exact eqs (.inl rfl) hc hp
    · exact eqs (.inr rfl) hc hp
    · simp only [Option.bind_eq_bind, Option.bind_eq_some_iff] at hc
      obtain ⟨x', hx, y', hy, hc⟩ := hc
      cases hc
      exact plain hx hy hp
  · -- unOp
    rename_i op t x ho
    simp only [Option.map_eq_some_iff] at hc
    obtain ⟨y, hy, rfl⟩ := hc
    exact gives_un h ho hy hp
  · -- convert
    rename_i sT dT x ho
    split at hc
    · rename_i k' k h1 h2
      simp only [Option.map_eq_some_iff] at hc
      obtain ⟨y, hy, rfl⟩ := hc
      exact gives_conv h ho hy h1 h2 hp
    · rename_i h1 h2
      simp only [Option.map_eq_some_iff] at hc
      obtain ⟨y, hy, rfl⟩ := hc
      simp only [PO.val] at hp
      split at hp
      · rename_i b hb
        cases hp
        rw [← hb]
        exact gives_convStr h ho hy h1 h2 b hb
      · cases hp
    · split at hc
      · simp only [Option.map_eq_some_iff] at hc
        obtain ⟨y, hy, rfl⟩ := hc
        simp [PO.grows] at hgr
      · cases hc
    · cases hc
  · -- extract
    rename_i x i ho
    simp only [Option.map_eq_some_iff] at hc
    obtain ⟨y, hy, rfl⟩ := hc
    exact gives_ext h ho hy hp
  · -- makeFunc
    rename_i f first cap ho
    split at hc
    · rename_i hf
      simp only [Option.map_eq_some_iff] at hc
      obtain ⟨l, hl, rfl⟩ := hc
      cases hp
      exact gives_mkclo h ho hf hl
    · cases hc
  · -- call
    rename_i c ho
    split at hc
    · simp only [Option.map_eq_some_iff] at hc
      obtain ⟨l, hl, rfl⟩ := hc
      split at hp <;> cases hp
    · simp only [Option.bind_eq_bind, Option.bind_eq_some_iff] at hc
      obtain ⟨y, hy, l, hl, hc⟩ := hc
      cases hc
      cases hp
    · rename_i hcal
      split at hc
      · rename_i t x ht hx
        split at hc
        · rename_i hs
          simp only [Option.map_eq_some_iff] at hc
          obtain ⟨y, hy, rfl⟩ := hc
          exact gives_len h ho hcal ht hx hy hs hp
        · split at hc
          · rename_i hs
            simp only [Option.map_eq_some_iff] at hc
            obtain ⟨y, hy, rfl⟩ := hc
            exact gives_slen h ho hcal ht hx hy hs hp
          · split at hc
            · rename_i hs
              simp only [Option.map_eq_some_iff] at hc
              obtain ⟨y, hy, rfl⟩ := hc
              exact gives_mlen h ho hcal ht hx hy hs hp
            · cases hc
      · cases hc
    · split at hc
      · split at hc
        · simp only [Option.bind_eq_bind, Option.bind_eq_some_iff] at hc
          obtain ⟨j, hj, z, hz, hc⟩ := hc
          split at hc
          · simp only [Option.bind_eq_some_iff] at hc
            obtain ⟨y, hy, hc⟩ := hc
            cases hc
            cases hp
          · cases hc
        · cases hc
      · cases hc
    · rename_i hcal
      simp only [Option.map_eq_some_iff] at hc
      obtain ⟨l, hl, rfl⟩ := hc
      exact gives_mm (isMax := false) h ho (by simpa using hcal) hl hp
    · rename_i hcal
      simp only [Option.map_eq_some_iff] at hc
      obtain ⟨l, hl, rfl⟩ := hc
      exact gives_mm (isMax := true) h ho (by simpa using hcal) hl hp
    · cases hc
  · -- makeMap
    cases hc; cases hp
  · -- lookup
    rename_i t m k ok ho
    split at hc
    · rename_i kt e hu
      simp only [Option.bind_eq_bind, Option.bind_eq_some_iff] at hc
      obtain ⟨ks, hks, z, hz, m', hm, k', hk, hc⟩ := hc
      cases hc
      exact gives_lookup h ho hu hks hz hm hk hp
    · cases hc
  · -- mapEntry
    split at hc
    · simp only [Option.bind_eq_bind, Option.bind_eq_some_iff] at hc
      obtain ⟨ks, hks, z, hz, m', hm, k', hk, hc⟩ := hc
      cases hc; cases hp
    · cases hc
  · -- entryStore
    simp only [Option.bind_eq_bind, Option.bind_eq_some_iff] at hc
    obtain ⟨m', hm, k', hk, x', hx, hc⟩ := hc
    cases hc; cases hp
  · -- mapUpdate
    split at hc
    · simp only [Option.bind_eq_bind, Option.bind_eq_some_iff] at hc
      obtain ⟨ks, hks, m', hm, k', hk, x', hx, hc⟩ := hc
      cases hc; cases hp
    · cases hc
  · -- insert
    split at hc
    · simp only [Option.bind_eq_bind, Option.bind_eq_some_iff] at hc
      obtain ⟨ks, hks, m', hm, k', hk, x', hx, hc⟩ := hc
      cases hc; cases hp
    · cases hc
  · -- range
    split at hc
    · simp only [Option.map_eq_some_iff] at hc
      obtain ⟨y, hy, rfl⟩ := hc
      cases hp
    · cases hc
  · -- next
    simp only [Option.map_eq_some_iff] at hc
    obtain ⟨y, hy, rfl⟩ := hc
    cases hp
  · -- entry
    rename_i it ho
    simp only [Option.map_eq_some_iff] at hc
    obtain ⟨y, hy, rfl⟩ := hc
    exact gives_mcur h ho hy hp
  · -- makeSlice
    split at hc
    · simp only [Option.bind_eq_bind, Option.bind_eq_some_iff] at hc
      obtain ⟨j, hj, z, hz, hc⟩ := hc
      split at hc
      · simp only [Option.bind_eq_some_iff] at hc
        obtain ⟨l', hl, c', hcc, hc⟩ := hc
        cases hc; cases hp
      · cases hc
    · cases hc
  · cases hc

end
end Go.Pi
/- The operations that turn slots, objects or memory. -/
namespace Go.Pi
open Go.RowKit

section
variable {P : Program} {E : Ent} {s s' : St} {bl : List Nat} {π : Nat → Nat → Prop} {om : Loc → Option Nat} {a : Act} {w : World}

/-- The operation runs, and the state behind it tells the frame and the memory behind it. -/
def Done (P : Program) (E : Ent) (s' : St) (a : Act) (w : World) (o : Oper) : Prop :=
  ∃ v w' bl' π' om', ((execOp a.eval o).run P w = .ok (.value v) w' ∨ ((execOp a.eval o).run P w = .ok .skip w' ∧ v = undef)) ∧ Rel E s' bl' π' om' (a.put o.dst v) w'

theorem Rel.putd (h : Rel E s bl π om a w) {d : Option Nat} (hd : ∀ t, d = some t → t < E.n) {p : PV} {v : Value} (ob : Option Nat) (hv : LRel w bl π s.H ob p v)
    (hob : ∀ b, ob = some b → ((∃ cs t, w.heap[b]? = some (.cells cs t (0, 0))) ∧ (E.w.heap.size ≤ b ∨ E.O b) ∧ ¬ Live bl s.H b) ∧ ∀ ℓ, om ℓ ≠ some b) : ∃ om', Rel E (s.set d p) bl π om' (a.put d v) w := by
  cases d with
  | none => exact ⟨om, h⟩
  | some t => exact ⟨_, h.put (hd t rfl) ob hv (fun b hb => ⟨(hob b hb).1, fun ℓ _ => (hob b hb).2 ℓ⟩)⟩

theorem done_val (h : Rel E s bl π om a w) {o : Oper} {p : PV} (hd : ∀ t, o.dst = some t → t < E.n) (hg : Gives P E s bl π a w o p) : Done P E (s.set o.dst p) a w o := by
  obtain ⟨v, hr, hl⟩ := hg
  obtain ⟨om', h'⟩ := h.putd hd none hl (fun b hb => by cases hb)
  exact ⟨v, w, bl, π, om', .inl hr, h'⟩

theorem done_take (h : Rel E s bl π om a w) {o : Oper} {x : Nat} (ho : o.op = .move (.tmp x) ∨ o.op = .assign (.tmp x)) (hd : ∀ t, o.dst = some t → t < E.n) (hp : (PO.take x).step o.dst s = some s') : Done P E s' a w o := by
  simp only [PO.step] at hp
  split at hp
  · cases hp
  · rename_i hne
    cases hp
    have h1 := h.disown x
    have hl := h.tm x
    have hx : ({ s with t := upd s.t x (s.t x).strip } : St).H = s.H := rfl
    have hrun : (execOp a.eval o).run P w = .ok (.value (a.eval (.tmp x))) w := by
      rcases ho with ho | ho <;> simp [execOp, ho]
    obtain ⟨om', h2⟩ := h1.putd hd (om (.t x)) hl (fun b hb => ⟨h.omw _ _ hb, fun ℓ hℓ => by
      by_cases e : ℓ = .t x
      · rw [e, upd_same] at hℓ; cases hℓ
      · rw [upd_other _ _ e] at hℓ
        exact e (h.inj _ _ b hℓ hb)⟩)
    exact ⟨_, w, bl, π, om', .inl hrun, h2⟩

theorem done_newObj (h : Rel E s bl π om a w) {o : Oper} {t : TypeId} {cs : Array Value} {pcs : List PV} (hd : ∀ t, o.dst = some t → t < E.n) (hl : cs.size = pcs.length)
    (hr : ∀ (i : Nat) (z : PV) (u : Value), pcs[i]? = some z → cs[i]? = some u → VRel w bl π z u ∧ NoOwn z)
    (hrun : (execOp a.eval o).run P w = .ok (.value (.pointer (some ⟨w.heap.size, 0, none⟩))) (w.alloc (.cells cs t))) :
    Done P E (({ s with H := s.H ++ [.cells pcs] } : St).set o.dst (.ptr s.H.length 0)) a w o := by
  have h1 := h.newObj (.cells cs t) (.cells pcs) (fun w' hw' hc hlt => ⟨cs, t, hw', hl, fun i z u hz hu => by
    obtain ⟨r1, r2⟩ := hr i z u hz hu
    refine .plain (r1.mono (fun i b hi => ?_) (fun _ _ h => h) hc) r2
    rw [List.getElem?_append_left (List.getElem?_eq_some_iff.1 hi).1]; exact hi⟩)
  have hptr : VRel (w.alloc (.cells cs t)) (bl ++ [w.heap.size]) π (.ptr s.H.length 0) (.pointer (some ⟨w.heap.size, 0, none⟩)) := .ptr (by rw [← h.len]; simp)
  obtain ⟨om', h2⟩ := h1.putd hd none (.plain hptr (.of fun _ e => by cases e)) (fun b hb => by cases hb)
  exact ⟨_, _, _, _, om', .inl hrun, h2⟩

theorem done_alloc (h : Rel E s bl π om a w) {o : Oper} {t : TypeId} {z : List PV} (ho : o.op = .alloc t) (hz : zeroOf P t = some z) (hd : ∀ t, o.dst = some t → t < E.n) (hp : (PO.alloc z).step o.dst s = some s') : Done P E s' a w o := by
  simp only [PO.step] at hp
  cases hp
  obtain ⟨i, v, hi, hv, hl, hr⟩ := zeroOf_rel hz
  refine done_newObj (cs := v.cells) (t := t) h hd hl (fun i z u hz hu => hr w bl π i z u hz hu) ?_
  simp [execOp, ho, Instr.alloc, zeroValue, typeInfo, hi, hv, newVar, newRow]

theorem done_box (h : Rel E s bl π om a w) {o : Oper} {t : TypeId} {x : Operand} {y : Arg} (ho : o.op = .box t x) (hy : argOf x = some y) (hd : ∀ t, o.dst = some t → t < E.n) (hp : (PO.box y).step o.dst s = some s') : Done P E s' a w o := by
  simp only [PO.step] at hp
  split at hp
  · rename_i hst
    cases hp
    obtain ⟨c1, c2⟩ := (h.arg hy).cellsOf (storable_ne hst)
    refine done_newObj (cs := (a.eval x).cells) (t := t) h hd (by simpa using c1) (fun i z u hz hu => ?_) ?_
    · simp only [List.getElem?_map, Option.map_eq_some_iff] at hz
      obtain ⟨z', hz', rfl⟩ := hz
      exact ⟨(c2 i z' u hz' hu).strip, PV.strip_ne _⟩
    · simp [execOp, ho, Instr.box, newVar, newRow]
  · cases hp

/-- A row's block, turned. -/
theorem setRow_heap_ne (w : World) (g b : Nat) (c : Array Value) (h : b ≠ g) : (w.setRow g c).heap[b]? = w.heap[b]? := by
  simp only [World.setRow, Array.getElem?_modify]
  rw [if_neg (Ne.symm h)]

theorem setRow_size (w : World) (g : Nat) (c : Array Value) : (w.setRow g c).heap.size = w.heap.size := by simp [World.setRow]

/-- An object's cells are turned, from 'off' on. -/
theorem Rel.storeCells (h : Rel E s bl π om a w) {id off b : Nat} {pcs l pcs' : List PV} {cs : Array Value} {t : TypeId} (hg : s.H[id]? = some (.cells pcs)) (hbl : bl[id]? = some b) (hw : w.heap[b]? = some (.cells cs t (0, 0)))
    (hset : setAt pcs off l = some pcs') (vs : List Value) (hlen : vs.length = l.length) (ob : Option Nat) (hob : ∀ q, ob = some q → ((∃ cs t, w.heap[q]? = some (.cells cs t (0, 0))) ∧ (E.w.heap.size ≤ q ∨ E.O q) ∧ ¬ Live bl s.H q) ∧ (∀ ℓ, om ℓ ≠ some q) ∧ l.length = 1)
    (hr : ∀ (i : Nat) (z : PV) (u : Value), l[i]? = some z → vs[i]? = some u → LRel w bl π s.H ob z u) :
    ∃ om', Rel E { s with H := s.H.set id (.cells pcs') } bl π om' a (w.setRow b (cs.toList.take off ++ vs ++ cs.toList.drop (off + vs.length)).toArray) := by
  obtain ⟨s1, s2, s3⟩ := setAt_spec hset
  obtain ⟨cs0, t0, e1, e2, e3⟩ := h.ob id _ b hg hbl
  rw [hw] at e1
  cases e1
  have hnl : ∀ q, ob = some q → ¬ Live bl s.H q ∨ True := fun _ _ => .inr trivial
  refine ⟨fun ℓ => match ℓ with | .c i o => if i = id ∧ off ≤ o ∧ o < off + l.length then ob else om (.c i o) | ℓ => om ℓ, ?_⟩
  refine h.setObj hg hbl (by simp) (by simp) (setRow_size _ _ _) rfl rfl rfl (fun b' hne => setRow_heap_ne _ _ _ _ hne) ?_ ?_ ?_ ?_
  · intro ℓ hℓ
    cases ℓ with
    | t n => rfl
    | c i o =>
      show (if i = id ∧ off ≤ o ∧ o < off + l.length then ob else om (.c i o)) = om (.c i o)
      rw [if_neg]
      rintro ⟨rfl, _⟩
      exact hℓ o rfl
  · -- no block twice
    have key : ∀ ℓ q, (match ℓ with | .c i o => if i = id ∧ off ≤ o ∧ o < off + l.length then ob else om (.c i o) | ℓ => om ℓ) = some q →
        (om ℓ = some q ∧ ¬ (∃ o, ℓ = .c id o ∧ off ≤ o ∧ o < off + l.length)) ∨ (ob = some q ∧ ℓ = .c id off) := by
      intro ℓ q hq
      cases ℓ with
      | t n => exact .inl ⟨hq, fun ⟨o, e, _⟩ => by cases e⟩
      | c i o =>
        simp only at hq
        split at hq
        · rename_i hc
          obtain ⟨rfl, h1, h2⟩ := hc
          have := (hob q hq).2.2
          have : o = off := by omega
          subst this
          exact .inr ⟨hq, rfl⟩
        · rename_i hc
          exact .inl ⟨hq, fun ⟨o', e, h1, h2⟩ => by cases e; exact hc ⟨rfl, h1, h2⟩⟩
    intro ℓ ℓ' q h1 h2
    rcases key ℓ q h1 with ⟨g1, _⟩ | ⟨g1, g1'⟩ <;> rcases key ℓ' q h2 with ⟨g2, _⟩ | ⟨g2, g2'⟩
    · exact h.inj _ _ q g1 g2
    · exact absurd g1 ((hob q g2).2.1 ℓ)
    · exact absurd g2 ((hob q g1).2.1 ℓ')
    · rw [g1', g2']
  · intro ℓ q hq
    have up : ((∃ cs t, w.heap[q]? = some (.cells cs t (0, 0))) ∧ (E.w.heap.size ≤ q ∨ E.O q) ∧ ¬ Live bl s.H q) → (∃ cs', ∃ t', (w.setRow b (cs.toList.take off ++ vs ++ cs.toList.drop (off + vs.length)).toArray).heap[q]? = some (.cells cs' t' (0, 0))) ∧ (E.w.heap.size ≤ q ∨ E.O q) ∧ ¬ Live bl s.H q := by
      rintro ⟨⟨cs', t', h1⟩, h2⟩
      refine ⟨?_, h2⟩
      by_cases e : q = b
      · subst e
        rw [hw] at h1
        cases h1
        exact ⟨_, _, setRow_heap w q cs _ t _ hw⟩
      · exact ⟨cs', t', by rw [setRow_heap_ne _ _ _ _ e]; exact h1⟩
    cases ℓ with
    | t n => exact up (h.omw _ _ hq)
    | c i o =>
      simp only at hq
      split at hq
      · exact up (hob q hq).1
      · exact up (h.omw _ _ hq)
  · intro hcell hlv hnl'
    have mv : ∀ {ob p v}, LRel w bl π s.H ob p v → LRel (w.setRow b (cs.toList.take off ++ vs ++ cs.toList.drop (off + vs.length)).toArray) bl π (s.H.set id (.cells pcs')) ob p v :=
      fun hl => hl.move (fun _ _ h => h) (fun _ _ h => h) hcell (fun b' _ hL _ => ⟨hnl' b' hL, fun hL' => hL ((hlv b').1 hL'), fun _ h => h⟩)
    have hcs : cs.size = pcs.length := e2
    refine ⟨_, t, setRow_heap w b cs _ t _ hw, by simp; omega, ?_⟩
    intro i z u hz hu
    rw [s3 i] at hz
    have hlv' : (cs.toList.take off).length = off := by simp; omega
    simp only [List.getElem?_toArray] at hu
    by_cases hc : off ≤ i ∧ i < off + l.length
    · rw [if_pos hc] at hz
      rw [List.getElem?_append_left (by simp; omega), List.getElem?_append_right (by omega), hlv'] at hu
      show LRel _ _ _ _ (if id = id ∧ off ≤ i ∧ i < off + l.length then ob else om (.c id i)) z u
      rw [if_pos ⟨rfl, hc⟩]
      exact mv (hr _ z u hz hu)
    · rw [if_neg hc] at hz
      show LRel _ _ _ _ (if id = id ∧ off ≤ i ∧ i < off + l.length then ob else om (.c id i)) z u
      rw [if_neg (fun h => hc h.2)]
      refine mv (e3 i z u hz ?_)
      by_cases h1 : i < off
      · rw [List.getElem?_append_left (by simp; omega), List.getElem?_append_left (by omega), List.getElem?_take, if_pos h1] at hu
        simpa using hu
      · rw [List.getElem?_append_right (by simp; omega), List.getElem?_drop] at hu
        have hl1 : (cs.toList.take off ++ vs).length = off + l.length := by rw [List.length_append, hlv', hlen]
        rw [hl1, hlen, show off + l.length + (i - (off + l.length)) = i by omega] at hu
        simpa using hu

theorem run_storeAt {t : TypeId} {k : Nat} {g : Bool} (hk : sizeAgg P t = some (k, g)) {b off : Nat} {v : Value} {cs : Array Value} {ty : TypeId} (hw : w.heap[b]? = some (.cells cs ty (0, 0)))
    (hs : v.cells.size = k) (h1 : ∀ u ∈ v.cells.toList, u.oneCell' = true) (hle : off + k ≤ cs.size) :
    (Instr.storeAt t (.pointer (some ⟨b, off, none⟩)) v).run P w = .ok () (w.setRow b (cs.toList.take off ++ v.cells.toList ++ cs.toList.drop (off + v.cells.toList.length)).toArray) := by
  have := run_storeCells_at (P := P) b off ty v.cells.toList 0 cs w hw (by simp; omega) h1
  simp [Instr.storeAt, Instr.sureAddr, storeVar, run_sizeOf' hk, hs]
  simpa [hs] using this

theorem storable_one {p : PV} {v : Value} (h : VRel w bl π p v) (hst : storable p.cells = true) : ∀ u ∈ v.cells.toList, u.oneCell' = true := by
  obtain ⟨c1, c2⟩ := h.cellsOf (storable_ne hst)
  intro u hu
  obtain ⟨i, hi⟩ := List.mem_iff_getElem?.1 hu
  have hlt : i < v.cells.size := by have := (List.getElem?_eq_some_iff.1 hi).1; simpa using this
  obtain ⟨z, hz⟩ : ∃ z, p.cells[i]? = some z := ⟨_, List.getElem?_eq_getElem (by omega)⟩
  exact (c2 i z u hz (by simpa using hi)).one (List.all_eq_true.1 hst z (List.mem_of_getElem? hz))

theorem done_store (h : Rel E s bl π om a w) {o : Oper} {t : TypeId} {k : Nat} {g : Bool} {x p : Operand} {y q : Arg} (ho : o.op = .store t p x) (hk : sizeAgg P t = some (k, g)) (hq : argOf p = some q) (hy : argOf x = some y) (hd : ∀ t, o.dst = some t → t < E.n)
    (hp : (PO.store q y k).step o.dst s = some s') : Done P E s' a w o := by
  simp only [PO.step, Option.map_eq_some_iff] at hp
  obtain ⟨H, hH, rfl⟩ := hp
  have hptr := h.arg hq
  have hval := h.arg hy
  unfold storePV at hH
  split at hH
  · rename_i id off hqa
    rw [hqa] at hptr
    simp only [Option.bind_eq_some_iff] at hH
    obtain ⟨pcs, hpcs, hH⟩ := hH
    split at hH
    · rename_i hc
      obtain ⟨hc1, hc2⟩ := hc
      simp only [Option.map_eq_some_iff] at hH
      obtain ⟨pcs', hset, rfl⟩ := hH
      unfold objCells at hpcs
      split at hpcs
      · rename_i cs0 hg
        cases hpcs
        generalize hv : a.eval p = vp at hptr
        cases hptr with
        | ptr hbl =>
          rename_i b
          obtain ⟨cs, ty, e1, e2, e3⟩ := h.ob id _ b hg hbl
          obtain ⟨c1, c2⟩ := hval.cellsOf (storable_ne hc2)
          obtain ⟨s1, s2, s3⟩ := setAt_spec hset
          simp only [List.length_map] at s1
          obtain ⟨om', h'⟩ := h.storeCells hg hbl e1 hset (a.eval x).cells.toList (by simpa using c1) none (fun q hq => by cases hq) (fun i z u hz hu => by
            simp only [List.getElem?_map, Option.map_eq_some_iff] at hz
            obtain ⟨z', hz', rfl⟩ := hz
            exact .plain (c2 i z' u hz' (by simpa using hu)).strip (PV.strip_ne _))
          have hrun := run_storeAt (P := P) (w := w) (off := off) hk e1 (by rw [c1, hc1]) (storable_one hval hc2) (by omega)
          obtain ⟨om'', h''⟩ := h'.putd hd none (.plain (.junk undef) (.of fun _ e => by cases e)) (fun b hb => by cases hb)
          exact ⟨undef, _, _, _, _, .inr ⟨by simp [execOp, ho, hv, hrun], rfl⟩, h''⟩
      · cases hpcs
    · cases hH
  · cases hH

/-- A cell gives up its array. -/
theorem Rel.disownCell (h : Rel E s bl π om a w) {id off : Nat} {pcs : List PV} {x : PV} (hg : s.H[id]? = some (.cells pcs)) (hx : pcs[off]? = some x) :
    Rel E { s with H := s.H.set id (.cells (pcs.set off x.strip)) } bl π (upd om (.c id off) none) a w := by
  have hid := (List.getElem?_eq_some_iff.1 hg).1
  obtain ⟨b, hbl⟩ : ∃ b, bl[id]? = some b := ⟨_, List.getElem?_eq_getElem (by rw [h.len]; exact hid)⟩
  refine h.setObj hg hbl (by simp) (by simp) rfl rfl rfl rfl (fun _ _ => rfl) ?_ ?_ ?_ ?_
  · intro ℓ hℓ
    exact upd_other _ _ (hℓ off)
  · intro ℓ ℓ' q h1 h2
    by_cases e1 : ℓ = .c id off
    · rw [e1, upd_same] at h1; cases h1
    · by_cases e2 : ℓ' = .c id off
      · rw [e2, upd_same] at h2; cases h2
      · rw [upd_other _ _ e1] at h1
        rw [upd_other _ _ e2] at h2
        exact h.inj _ _ q h1 h2
  · intro ℓ q hq
    by_cases e : ℓ = .c id off
    · rw [e, upd_same] at hq; cases hq
    · rw [upd_other _ _ e] at hq
      exact h.omw _ _ hq
  · intro hcell hlv hnl
    have mv : ∀ {ob p v}, LRel w bl π s.H ob p v → LRel w bl π (s.H.set id (.cells (pcs.set off x.strip))) ob p v :=
      fun hl => hl.move (fun _ _ h => h) (fun _ _ h => h) hcell (fun b' _ hL _ => ⟨rfl, fun hL' => hL ((hlv b').1 hL'), fun _ h => h⟩)
    obtain ⟨cs, t, e1, e2, e3⟩ := h.ob id _ b hg hbl
    refine ⟨cs, t, e1, by simp [e2], ?_⟩
    intro i z u hz hu
    by_cases e : i = off
    · subst e
      rw [List.getElem?_set_self (List.getElem?_eq_some_iff.1 hx).1] at hz
      cases hz
      simp only [upd_same]
      exact .plain (e3 i x u hx hu).1.strip (PV.strip_ne _)
    · rw [List.getElem?_set_ne (Ne.symm e)] at hz
      rw [upd_other _ _ (by intro e'; cases e'; exact e rfl)]
      exact mv (e3 i z u hz hu)

theorem sizeAgg_slice {t : TypeId} {k : Nat} {g : Bool} (hk : sizeAgg P t = some (k, g)) (hs : isSliceT P t = true) : k = 1 ∧ g = false := by
  obtain ⟨i, d, hi, hk1, hd, rfl, h1⟩ := sizeAgg_spec hk
  obtain ⟨e, hu⟩ := sliceT hs
  rw [hd] at hu
  cases hu
  exact ⟨h1 rfl, rfl⟩

theorem done_loadT (h : Rel E s bl π om a w) {o : Oper} {t : TypeId} {k : Nat} {g : Bool} {p : Operand} {q : Arg} (ho : o.op = .load t p) (hk : sizeAgg P t = some (k, g)) (hs : isSliceT P t = true) (hq : argOf p = some q) (hd : ∀ t, o.dst = some t → t < E.n)
    (hp : (PO.loadT q).step o.dst s = some s') : Done P E s' a w o := by
  obtain ⟨rfl, rfl⟩ := sizeAgg_slice hk hs
  have hptr := h.arg hq
  simp only [PO.step] at hp
  generalize hv : a.eval p = vp at hptr
  split at hp
  · rename_i id off hqa
    rw [hqa] at hptr
    simp only [Option.bind_eq_some_iff, Option.map_eq_some_iff] at hp
    obtain ⟨pcs, hpcs, x, hx, rfl⟩ := hp
    unfold objCells at hpcs
    split at hpcs
    · rename_i cs0 hg
      cases hpcs
      cases hptr with
      | ptr hbl =>
        rename_i b
        obtain ⟨cs, ty, e1, e2, e3⟩ := h.ob id _ b hg hbl
        have hlt : off < cs.size := by rw [e2]; exact (List.getElem?_eq_some_iff.1 hx).1
        have hl := e3 off x cs[off] hx (by simp [hlt])
        have h1 := h.disownCell hg hx
        have hl1 : LRel w bl π (s.H.set id (.cells (pcs.set off x.strip))) (om (.c id off)) x cs[off] :=
          hl.move (fun _ _ h => h) (fun _ _ h => h) (fun _ _ _ => rfl) (fun b' _ hL _ => ⟨rfl, fun hL' => hL ((live_set hg (by simp) (by simp)).1 hL'), fun _ h => h⟩)
        obtain ⟨om', h2⟩ := h1.putd hd (om (.c id off)) hl1 (fun q hq => ⟨⟨(h.omw _ _ hq).1, (h.omw _ _ hq).2.1, fun hL => (h.omw _ _ hq).2.2 ((live_set hg (by simp) (by simp)).1 hL)⟩, fun ℓ hℓ => by
          by_cases e : ℓ = .c id off
          · rw [e, upd_same] at hℓ; cases hℓ
          · rw [upd_other _ _ e] at hℓ
            exact e (h.inj _ _ q hℓ hq)⟩)
        refine ⟨cs[off], w, _, _, om', .inl ?_, h2⟩
        simp [execOp, ho, hv, Instr.loadAt, Instr.sureAddr, loadVar, run_isAgg hk, World.cell?, e1, hlt]
    · cases hpcs
  · rename_i cs off hqa
    rw [hqa] at hptr
    simp only [Option.map_eq_some_iff] at hp
    obtain ⟨x, hx, rfl⟩ := hp
    cases hptr with
    | ept cv hc hr =>
      rename_i b base
      have hlt := (List.getElem?_eq_some_iff.1 hx).1
      obtain ⟨om', h2⟩ := h.putd hd none (.plain (hr off x hx).strip (PV.strip_ne _)) (fun b hb => by cases hb)
      refine ⟨cv off, w, _, _, om', .inl ?_, h2⟩
      simp [execOp, ho, hv, Instr.loadAt, Instr.sureAddr, loadVar, run_isAgg hk, kell_cell (hc off hlt).2]
  · cases hp

theorem done_storeT (h : Rel E s bl π om a w) {o : Oper} {t : TypeId} {k : Nat} {g : Bool} {p : Operand} {x : Nat} {q : Arg} (ho : o.op = .store t p (.tmp x)) (hk : sizeAgg P t = some (k, g)) (hs : isSliceT P t = true) (hq : argOf p = some q) (hd : ∀ t, o.dst = some t → t < E.n)
    (hp : (PO.storeT q x).step o.dst s = some s') : Done P E s' a w o := by
  obtain ⟨rfl, rfl⟩ := sizeAgg_slice hk hs
  have hptr := h.arg hq
  simp only [PO.step] at hp
  generalize hv : a.eval p = vp at hptr
  split at hp
  · rename_i id off hqa hone
    rw [hqa] at hptr
    simp only [Option.bind_eq_some_iff] at hp
    obtain ⟨pcs, hpcs, hp⟩ := hp
    split at hp
    · rename_i hlt
      cases hp
      unfold objCells at hpcs
      split at hpcs
      · rename_i cs0 hg
        cases hpcs
        cases hptr with
        | ptr hbl =>
          rename_i b
          have h1 := h.disown x
          obtain ⟨cs, ty, e1, e2, e3⟩ := h.ob id _ b hg hbl
          have hl := h.tm x
          have hcells : (s.t x).cells = [s.t x] := by cases hx : s.t x <;> simp_all [PV.cells, PV.one]
          have hst : storable (s.t x).cells = true := by rw [hcells]; simp [storable, hone]
          obtain ⟨c1, c2⟩ := hl.1.cellsOf (storable_ne hst)
          have hval : (a.eval (.tmp x)).cells = #[a.eval (.tmp x)] := by
            have := hl.1.one hone
            show (a.tmps.getD x undef).cells = #[a.tmps.getD x undef]
            generalize a.tmps.getD x undef = u at this
            cases u <;> simp_all [Value.oneCell', Value.cells]
          have hset : setAt pcs off [s.t x] = some (pcs.set off (s.t x)) := by
            unfold setAt
            rw [if_pos (by simp; omega)]
            congr 1
            rw [List.set_eq_take_append_cons_drop, if_pos hlt]
            simp
          obtain ⟨om', h2⟩ := h1.storeCells (id := id) (off := off) hg hbl e1 hset [a.eval (.tmp x)] rfl (om (.t x)) (fun q hq => ⟨h.omw _ _ hq, fun ℓ hℓ => by
            by_cases e : ℓ = .t x
            · rw [e, upd_same] at hℓ; cases hℓ
            · rw [upd_other _ _ e] at hℓ
              exact e (h.inj _ _ q hℓ hq), rfl⟩) (fun i z u hz hu => by
            cases i with
            | zero => simp at hz hu; subst hz; subst hu; exact hl
            | succ i => simp at hz)
          have hrun := run_storeAt (P := P) (w := w) hk e1 (v := a.eval (.tmp x)) (off := off) (by rw [hval]; rfl) (storable_one hl.1 hst) (by omega)
          rw [hval] at hrun
          obtain ⟨om'', h''⟩ := h2.putd hd none (.plain (.junk undef) (.of fun _ e => by cases e)) (fun b hb => by cases hb)
          exact ⟨undef, _, _, _, _, .inr ⟨by simp only [execOp, ho, hv, Sem.run_bind, hrun, Result.andThen_ok, Sem.run_pure], rfl⟩, h''⟩
      · cases hpcs
    · cases hp
  · cases hp

end
end Go.Pi
/- Slices that are written out, and append. -/
namespace Go.Pi
open Go.RowKit

section
variable {P : Program} {E : Ent} {s s' : St} {bl : List Nat} {π : Nat → Nat → Prop} {om : Loc → Option Nat} {a : Act} {w : World}

/-- The cells of a told slice. -/
theorem VRel.slcVals {o : Bool} {xs : List PV} {q : Option Addr} {len cap k : Nat} (h : VRel w bl π (.slc o xs) (.slice q len cap)) (hk : ∀ x ∈ xs, x.cells.length = k) :
    ∃ vs : List Value, vs.length = xs.length * k ∧ len = xs.length ∧ (xs = [] ∨ ∃ b off, q = some ⟨b, off, none⟩ ∧ ∀ (i : Nat) (u : Value), vs[i]? = some u → π b (off + i) ∧ w.kell ⟨b, off + i, none⟩ = some u) ∧
      ∀ (j c : Nat) (x z : PV) (u : Value), xs[j]? = some x → x.cells[c]? = some z → vs[j * k + c]? = some u → VRel w bl π z u := by
  generalize hv : Value.slice q len cap = v at h
  generalize hp : PV.slc o xs = p at h
  cases h <;> simp at hp
  · cases hv
    obtain ⟨_, rfl⟩ := hp
    exact ⟨[], by simp, rfl, .inl rfl, fun j c x z u hx => by simp at hx⟩
  · rename_i xs' b off cap' k' cv hne hcap hk' hc hr
    obtain ⟨_, rfl⟩ := hp
    cases hv
    have hkk : k' = k := by
      obtain ⟨y, hy⟩ := List.exists_mem_of_ne_nil _ hne
      rw [← hk' y hy, hk y hy]
    subst hkk
    have hdiv : ∀ i, i < xs.length * k' → 0 < k' := fun i hi => by
      rcases Nat.eq_zero_or_pos k' with h0 | h0
      · rw [h0] at hi; simp at hi
      · exact h0
    refine ⟨(List.range (xs.length * k')).map fun i => cv (i / k') (i % k'), by simp, rfl, .inr ⟨b, off, rfl, fun i u hu => ?_⟩, fun j c x z u hx hz hu => ?_⟩
    · have hlt : i < xs.length * k' := by have := (List.getElem?_eq_some_iff.1 hu).1; simpa using this
      simp [hlt] at hu
      subst hu
      have hk0 := hdiv i hlt
      have := hc (i / k') (i % k') (by rw [Nat.div_lt_iff_lt_mul hk0]; exact hlt) (Nat.mod_lt _ hk0)
      rw [Nat.add_assoc, Nat.mul_comm (i / k') k', Nat.div_add_mod] at this
      exact this
    · have hj := (List.getElem?_eq_some_iff.1 hx).1
      have hcl : c < k' := by rw [← hk x (List.mem_of_getElem? hx)]; exact (List.getElem?_eq_some_iff.1 hz).1
      have hlt : j * k' + c < xs.length * k' := by
        have : (j + 1) * k' ≤ xs.length * k' := Nat.mul_le_mul_right _ hj
        rw [Nat.add_one_mul] at this
        omega
      simp only [List.getElem?_map, List.getElem?_range hlt, Option.map_some, Option.some.injEq] at hu
      rw [← hu]
      have e1 : (j * k' + c) / k' = j := by
        rw [Nat.mul_comm, Nat.mul_add_div (by omega), Nat.div_eq_of_lt hcl]; omega
      have e2 : (j * k' + c) % k' = c := by
        rw [Nat.mul_comm, Nat.mul_add_mod, Nat.mod_eq_of_lt hcl]
      rw [e1, e2]
      exact hr j c x z hx hz

/-- A slice told by a row of cells. -/
theorem VRel.ofRow {o : Bool} {xs : List PV} {b off cap k : Nat} {vs : List Value} (hk : ∀ x ∈ xs, x.cells.length = k) (hlen : vs.length = xs.length * k) (hcap : xs.length ≤ cap) (ho : xs = [] → o = true → cap = 0)
    (hc : ∀ (i : Nat) (u : Value), vs[i]? = some u → π b (off + i) ∧ w.kell ⟨b, off + i, none⟩ = some u)
    (hr : ∀ (j c : Nat) (x z : PV) (u : Value), xs[j]? = some x → x.cells[c]? = some z → vs[j * k + c]? = some u → VRel w bl π z u) :
    VRel w bl π (.slc o xs) (.slice (some ⟨b, off, none⟩) xs.length cap) := by
  by_cases hne : xs = []
  · subst hne; exact .slc0 (ho rfl)
  · have idx : ∀ j c, j < xs.length → c < k → j * k + c < vs.length := fun j c hj hcc => by
      rw [hlen]
      have : (j + 1) * k ≤ xs.length * k := Nat.mul_le_mul_right _ hj
      rw [Nat.add_one_mul] at this
      omega
    refine .slc (k := k) (fun j c => vs.getD (j * k + c) undef) hne hcap hk (fun j c hj hcc => ?_) (fun j c x z hx hz => ?_)
    · have hi := idx j c hj hcc
      have := hc (j * k + c) vs[j * k + c] (by simp [hi])
      rw [← Nat.add_assoc] at this
      simpa [List.getD_eq_getElem?_getD, hi] using this
    · have hj := (List.getElem?_eq_some_iff.1 hx).1
      have hcl : c < k := by rw [← hk x (List.mem_of_getElem? hx)]; exact (List.getElem?_eq_some_iff.1 hz).1
      have hi := idx j c hj hcl
      refine hr j c x z _ hx hz ?_
      simp [List.getD_eq_getElem?_getD, hi]

theorem alloc_below (w : World) (o : Obj) : Below w.heap.size w (w.alloc o) := (Below.refl _ _).alloc (Nat.le_refl _) _

theorem drew_below (w : World) : Below w.heap.size w w.drew := (Below.refl _ _).drew

/-- A new row is laid, the first cells of which are told by a list of values: it is one's own. -/
theorem Rel.newRow (h : Rel E s bl π om a w) {w' : World} (hb : Below w.heap.size w w') (hs : w'.heap.size = w.heap.size + 1) {cs : Array Value} {t : TypeId} (hw : w'.heap[w.heap.size]? = some (.cells cs t (0, 0)))
    {d : Option Nat} (hd : ∀ t, d = some t → t < E.n) {xs : List PV} {k cap : Nat} {vs : List Value} (hk : ∀ x ∈ xs, x.cells.length = k) (hlen : vs.length = xs.length * k) (hcap : xs.length ≤ cap) (hsz : cap * k ≤ cs.size)
    (hne : xs ≠ []) (hv : ∀ (i : Nat) (u : Value), vs[i]? = some u → cs[i]? = some u) (hr : ∀ (j c : Nat) (x z : PV) (u : Value), xs[j]? = some x → x.cells[c]? = some z → vs[j * k + c]? = some u → VRel w bl π z u) :
    ∃ bl' π' om', Rel E (s.set d (.slc true xs)) bl' π' om' (a.put d (.slice (some ⟨w.heap.size, 0, none⟩) xs.length cap)) w' := by
  have h1 := h.grow hb
  have hnl : ¬ Live bl s.H w.heap.size := by
    rintro ⟨id, o, hbl, _, _⟩
    have := h.lt _ (List.mem_of_getElem? hbl)
    omega
  have hsize := h.fr.size
  have h2 := h1.prot (fun b o => b = w.heap.size ∧ o < xs.length * k) (fun b o hS => by
    obtain ⟨rfl, _⟩ := hS
    exact ⟨hnl, by omega, .inr (.inl hsize), .inr (fun ℓ hℓ => by have := h.omlt ℓ _ hℓ; omega)⟩)
  have hcell : ∀ (i : Nat) (u : Value), vs[i]? = some u → w'.kell ⟨w.heap.size, 0 + i, none⟩ = some u := fun i u hu => by
    have := hv i u hu
    simp [World.kell, World.cell?, World.frozen?, hw, this]
  have hrel : VRel w' bl (fun b o => π b o ∨ (b = w.heap.size ∧ o < xs.length * k)) (.slc true xs) (.slice (some ⟨w.heap.size, 0, none⟩) xs.length cap) :=
    .ofRow hk hlen hcap (fun e => absurd e hne) (fun i u hu => ⟨.inr ⟨rfl, by rw [← hlen]; have := (List.getElem?_eq_some_iff.1 hu).1; omega⟩, hcell i u hu⟩)
      (fun j c x z u hx hz hu => (hr j c x z u hx hz hu).mono (fun _ _ h => h) (fun _ _ h => .inl h) (fun b o hp => cell_of_block (hb.block b (h.pr b o hp).2)))
  obtain ⟨om', h3⟩ := h2.putd hd (some w.heap.size) ⟨hrel, fun ys e _ => by
    cases e
    refine ⟨_, _, _, rfl, .inr ⟨w.heap.size, 0, k, rfl, rfl, hnl, hne, hk, ⟨cs, t, hw, by simpa using hsz⟩, fun o ho hp => ?_⟩⟩
    rcases hp with hp | ⟨_, hp⟩
    · have := (h.pr _ o hp).2; omega
    · omega, fun k e => by cases e⟩ (fun b hb' => by
      cases hb'
      exact ⟨⟨⟨cs, t, hw⟩, .inl hsize, hnl⟩, fun ℓ hℓ => by have := h.omlt ℓ _ hℓ; omega⟩)
  exact ⟨_, _, om', h3⟩

/-! ### A slice written out -/

theorem flatten_idx {k : Nat} : ∀ {ls : List (List Value)}, (∀ l ∈ ls, l.length = k) → ∀ (j c : Nat) (l : List Value) (u : Value), ls[j]? = some l → l[c]? = some u → ls.flatten[j * k + c]? = some u
  | [], _, j, c, l, u, hl, _ => by simp at hl
  | m :: ls, h, j, c, l, u, hl, hu => by
    have hm := h m (by simp)
    cases j with
    | zero =>
      simp at hl
      subst hl
      have hc := (List.getElem?_eq_some_iff.1 hu).1
      simp only [Nat.zero_mul, Nat.zero_add, List.flatten_cons]
      rw [List.getElem?_append_left hc]
      exact hu
    | succ j =>
      simp only [List.getElem?_cons_succ] at hl
      simp only [List.flatten_cons]
      rw [List.getElem?_append_right (by rw [hm, Nat.add_one_mul]; omega), hm, show (j + 1) * k + c - k = j * k + c by rw [Nat.add_one_mul]; omega]
      exact flatten_idx (fun l' hl' => h l' (by simp [hl'])) j c l u hl hu

theorem flatten_len {k : Nat} : ∀ {ls : List (List Value)}, (∀ l ∈ ls, l.length = k) → ls.flatten.length = ls.length * k
  | [], _ => by simp
  | m :: ls, h => by
    have ih := flatten_len (k := k) (ls := ls) (fun l hl => h l (List.mem_cons_of_mem _ hl))
    rw [List.flatten_cons, List.length_append, ih, h m (by simp), List.length_cons, Nat.add_one_mul, Nat.add_comm]

/-- Parts that are laid one behind the other are the row. -/
theorem fill_row {k : Nat} : ∀ (vals : List Value) (j : Nat) (cs : Array Value), (∀ v ∈ vals, v.cells.size = k) → cs.size = (j + vals.length) * k →
    ∃ cs', Instr.fill (fun i => some (i * k, k)) cs ((vals.zipIdx j).map fun (v, i) => (i, v)) = some cs' ∧ cs'.toList = cs.toList.take (j * k) ++ (vals.map fun v => v.cells.toList).flatten
  | [], j, cs, _, hs => by
    refine ⟨cs, rfl, ?_⟩
    simp at hs
    simp [List.take_of_length_le, hs]
  | v :: vals, j, cs, hv, hs => by
    have hvs := hv v (by simp)
    have hfit : j * k + k ≤ cs.size := by
      rw [hs]
      have : (j + 1) * k ≤ (j + (v :: vals).length) * k := Nat.mul_le_mul_right _ (by simp)
      rw [Nat.add_one_mul] at this
      exact this
    obtain ⟨f1, f2⟩ := foldl_set v.cells.toList cs (j * k) 0 (by simp [hvs]; omega)
    have hfold : v.cells.zipIdx.foldl (fun cs (c, i) => cs.setIfInBounds (j * k + i) c) cs = (v.cells.toList.zipIdx 0).foldl (fun cs (c, i) => cs.setIfInBounds (j * k + i) c) cs := by
      rw [← Array.foldl_toList]
      simp
    obtain ⟨cs', g1, g2⟩ := fill_row vals (j + 1) ((v.cells.toList.zipIdx 0).foldl (fun cs (c, i) => cs.setIfInBounds (j * k + i) c) cs) (fun u hu => hv u (by simp [hu])) (by rw [f1, hs]; simp [Nat.add_assoc, Nat.add_comm 1])
    refine ⟨cs', ?_, ?_⟩
    · simp only [List.zipIdx_cons, List.map_cons, Instr.fill]
      rw [if_neg (by simp [hvs]; omega), hfold]
      exact g1
    · rw [g2]
      simp only [List.map_cons, List.flatten_cons, ← List.append_assoc]
      congr 1
      apply List.ext_getElem?
      intro i
      have f2' := f2 i
      simp only [Nat.add_zero, Array.length_toList, hvs] at f2'
      by_cases h1 : i < j * k
      · rw [List.getElem?_take, if_pos (by rw [Nat.add_one_mul]; omega), List.getElem?_append_left (by simp; omega), List.getElem?_take, if_pos h1]
        rw [if_neg (by omega)] at f2'
        simpa using f2'
      · by_cases h2 : i < (j + 1) * k
        · rw [List.getElem?_take, if_pos h2, List.getElem?_append_right (by simp; omega)]
          rw [Nat.add_one_mul] at h2
          rw [if_pos (by omega)] at f2'
          simp only [List.length_take, Array.length_toList]
          rw [Nat.min_eq_left (by omega)]
          simpa using f2'
        · rw [List.getElem?_take, if_neg h2, List.getElem?_eq_none]
          simp [hvs]
          rw [Nat.add_one_mul] at h2
          omega

theorem stripAll_cells (p : PV) : (stripAll p).cells = p.cells.map PV.strip := by
  cases p <;> simp [stripAll, PV.cells, PV.strip]

theorem args_rel (h : Rel E s bl π om a w) : ∀ {xs : List Operand} {ys : List Arg}, optArgs xs = some ys → xs.length = ys.length ∧ ∀ (i : Nat) (y : Arg) (x : Operand), ys[i]? = some y → xs[i]? = some x → argOf x = some y
  | [], ys, hy => by simp [optArgs] at hy; subst hy; exact ⟨rfl, fun i y x h => by simp at h⟩
  | x :: xs, ys, hy => by
    simp only [optArgs, List.mapM_cons, Option.bind_eq_bind, Option.bind_eq_some_iff, Option.pure_def, Option.some.injEq] at hy
    obtain ⟨y, hy1, ys', hy2, rfl⟩ := hy
    obtain ⟨i1, i2⟩ := args_rel h (xs := xs) (ys := ys') hy2
    refine ⟨by simp [i1], fun i q p hq hp => ?_⟩
    cases i with
    | zero => simp at hq hp; subst hq; subst hp; exact hy1
    | succ i => simp at hq hp; exact i2 i q p hq hp

theorem done_bslice (h : Rel E s bl π om a w) {o : Oper} {t e : TypeId} {len : Nat} {parts : Array (Nat × Operand)} {j : TypeInfo} {z : Value} {ps : List Arg} (ho : o.op = .buildSlice t len parts) (hu : P.underlying t = some (.slice e)) (hj : P.info? e = some j) (hz : j.zero = some z)
    (hparts : parts.toList.map (·.1) = List.range len) (hlen : len ≠ 0) (hsz : j.size ≠ 0) (_hzs : z.cells.size = j.size) (hle : len * j.size ≤ 1000) (hps : optArgs (parts.toList.map (·.2)) = some ps) (hd : ∀ t, o.dst = some t → t < E.n)
    (hp : (PO.bslice j.size ps).step o.dst s = some s') : Done P E s' a w o := by
  obtain ⟨pl⟩ := parts
  dsimp only at hparts hps
  simp only [PO.step] at hp
  split at hp
  · rename_i hall
    cases hp
    obtain ⟨l1, l2⟩ := args_rel h hps
    simp only [List.length_map] at l1
    have hplen : pl.length = len := by have := congrArg List.length hparts; simpa using this
    have hval : ∀ (i : Nat) (y : Arg), ps[i]? = some y → ∃ v, (pl.map fun p => a.eval p.2)[i]? = some v ∧ VRel w bl π (s.arg y) v ∧ (s.arg y).cells.length = j.size ∧ storable (s.arg y).cells = true := by
      intro i y hy
      have hi : i < pl.length := by rw [l1]; exact (List.getElem?_eq_some_iff.1 hy).1
      have hx := l2 i y (pl[i].2) hy (by simp [hi])
      have hm := List.all_eq_true.1 hall (s.arg y) (List.mem_map_of_mem (List.mem_of_getElem? hy))
      simp at hm
      exact ⟨a.eval pl[i].2, by simp [hi], h.arg hx, hm.1, hm.2⟩
    have hvs : ∀ v ∈ (pl.map fun p => a.eval p.2), v.cells.size = j.size := by
      intro v hv
      obtain ⟨i, hi⟩ := List.mem_iff_getElem?.1 hv
      obtain ⟨y, hy⟩ : ∃ y, ps[i]? = some y := ⟨_, List.getElem?_eq_getElem (by have := (List.getElem?_eq_some_iff.1 hi).1; simp at this; omega)⟩
      obtain ⟨v', h1, h2, h3, h4⟩ := hval i y hy
      rw [hi] at h1
      cases h1
      rw [(h2.cellsOf (storable_ne h4)).1, h3]
    have hzip : ((pl.toArray).map fun (i, x) => (i, a.eval x)).toList = ((pl.map fun p => a.eval p.2).zipIdx 0).map fun (v, i) => (i, v) := by
      apply List.ext_getElem?
      intro i
      by_cases hi : i < pl.length
      · have e1 : (pl.map (·.1))[i]? = some i := by rw [hparts, List.getElem?_range (by omega)]
        simp only [List.getElem?_map, List.getElem?_eq_getElem hi, Option.map_some, Option.some.injEq] at e1
        simp only [List.map_toArray, List.getElem?_map, List.getElem?_eq_getElem hi, Option.map_some, List.getElem?_zipIdx, Nat.zero_add, Option.some.injEq, Prod.mk.injEq, and_true]
        exact e1
      · rw [List.getElem?_eq_none (by simpa using hi), List.getElem?_eq_none (by simpa using hi)]
    have hml : (pl.map fun p => a.eval p.2).length = len := by rw [List.length_map]; exact hplen
    obtain ⟨cs', f1, f2⟩ := fill_row (k := j.size) (pl.map fun p => a.eval p.2) 0 ((Array.range (len * j.size)).map (z.cells[· % z.cells.size]!)) hvs (by rw [hml]; simp)
    have hpos : len * j.size ≠ 0 := Nat.mul_ne_zero hlen hsz
    have hbig : ¬ (16777216 < len * j.size) := by omega
    have hrun : (execOp a.eval o).run P w = .ok (.value (.slice (some ⟨w.heap.size, 0, none⟩) len len)) (w.alloc (.cells cs' e)) := by
      rw [← hzip] at f1
      simp [execOp, ho, Instr.buildSlice, run_underlying hu, sizeOf, typeInfo, hj, hbig, hpos, zeroValue, hz]
      simp at f1
      rw [f1]
      simp [Go.newRow]
    simp only [Nat.zero_mul, List.take_zero, List.nil_append] at f2
    have hls : ∀ l ∈ ((pl.map fun p => a.eval p.2).map fun v => v.cells.toList), l.length = j.size := by
      intro l hl
      obtain ⟨v, hv, rfl⟩ := List.mem_map.1 hl
      simpa using hvs v hv
    have hln : ((ps.map s.arg).map stripAll).length = len := by simp; omega
    have hcs : cs'.size = len * j.size := by
      have := congrArg List.length f2
      rw [flatten_len hls] at this
      simpa [hplen] using this
    have hk : ∀ x ∈ (ps.map s.arg).map stripAll, x.cells.length = j.size := by
      intro x hx
      obtain ⟨q, hq, rfl⟩ := List.mem_map.1 hx
      obtain ⟨y, hy, rfl⟩ := List.mem_map.1 hq
      obtain ⟨i, hi⟩ := List.mem_iff_getElem?.1 hy
      obtain ⟨v, _, _, h3, _⟩ := hval i y hi
      rw [stripAll_cells]; simpa using h3
    have h3 := h.newRow (w' := w.alloc (.cells cs' e)) (alloc_below w _) (World.size_alloc _ _) (cs := cs') (t := e) (by show (w.heap.push _)[w.heap.size]? = _; simp) hd (xs := (ps.map s.arg).map stripAll) (k := j.size) (cap := len) (vs := cs'.toList)
      hk (by rw [hln, ← hcs]; simp) (by omega) (by omega) (by intro e'; rw [e'] at hln; simp at hln; omega) (fun i u hu => by simpa using hu) (fun jj c x z' u hx hz' hu => by
        simp only [List.getElem?_map, Option.map_eq_some_iff] at hx
        obtain ⟨q, ⟨y, hy, rfl⟩, rfl⟩ := hx
        obtain ⟨v, g1, g2, g3, g4⟩ := hval jj y hy
        rw [stripAll_cells] at hz'
        simp only [List.getElem?_map, Option.map_eq_some_iff] at hz'
        obtain ⟨z0, hz0, rfl⟩ := hz'
        obtain ⟨c1, c2⟩ := g2.cellsOf (storable_ne g4)
        have hcl : c < v.cells.size := by rw [c1]; exact (List.getElem?_eq_some_iff.1 hz0).1
        have hfl := flatten_idx hls jj c v.cells.toList v.cells[c] (by rw [List.getElem?_map, g1]; rfl) (by simp [hcl])
        rw [f2] at hu
        rw [hfl] at hu
        cases hu
        exact (c2 c z0 _ hz0 (by simp [hcl])).strip)
    rw [hln] at h3
    obtain ⟨bl', π', om', h3⟩ := h3
    exact ⟨_, _, _, _, _, .inl hrun, h3⟩
  · cases hp

end
end Go.Pi
