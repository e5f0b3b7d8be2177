/- Proved: whatever deeds at two models (the second form: of bulk at most 1048576), 'cribblelaw35.ModelTells' answers true and leaves its arguments as they were. Condition: the package variables utf8.first and utf8.acceptRanges hold what the program's text lays (the card ties them). -/
import Derived.Test.YtcmkgbboldchbaaGreatDoorB6
import Derived.Test.YtcmkgbboldchbaaGreatDoorA6
import Derived.Test.YtcmkgbboldchbaaGreatDoorTie
import Derived.Test.YtcmkgbboldchbaaGreatDoorCards
import Derived.Deep.DeepHandedRow
import Derived.OpenShut
import Derived.ProofKit
set_option linter.unusedSimpArgs false
set_option linter.unusedVariables false
namespace Go.Pi.M
open Go Go.Pi Go.Proofs Go.Sort Go.RowKit Go.ChangeShapes Go.WideShapes Go.ChangeAt
set_option maxRecDepth 10000

/-! From leaves to values -/
theorem bv_int {n : Int} (h : (Lit.int .u64 n).wf = true) : ∃ x : BitVec 64, n = x.toNat := by
  obtain ⟨h1, h2⟩ := bounds_u64 h
  refine ⟨BitVec.ofNat 64 n.toNat, ?_⟩
  rw [BitVec.toNat_ofNat]
  omega
theorem mI {B : Nat} {k : IntKind} {ls : List Leaf} {vs : List Value} (h : Match B (.int k :: ls) vs) : ∃ n r, vs = .int k n :: r ∧ (Lit.int k n).wf = true ∧ Match B ls r := by
  cases vs with
  | nil => exact h.elim
  | cons v r => obtain ⟨⟨n, rfl, hw⟩, hr⟩ := h; exact ⟨n, r, rfl, hw, hr⟩
theorem mS {B : Nat} {ls : List Leaf} {vs : List Value} (h : Match B (.str :: ls) vs) : ∃ (l : List UInt8) (r : List Value), vs = .string ⟨l.toArray⟩ :: r ∧ l.length ≤ B ∧ Match B ls r := by
  cases vs with
  | nil => exact h.elim
  | cons v r =>
    obtain ⟨⟨s, rfl, hs⟩, hr⟩ := h
    refine ⟨s.data.toList, r, by cases s; rfl, ?_, hr⟩
    rw [Array.length_toList]; exact hs
theorem mE {B : Nat} {vs : List Value} (h : Match B [] vs) : vs = [] := by
  cases vs with
  | nil => rfl
  | cons v r => exact h.elim
abbrev lsSpace : List Leaf := [.int .i64, .int .i64, .int .i64, .int .i64, .int .i64, .int .i64, .int .i64]
abbrev lsPfx : List Leaf := [.int .i64, .int .i64, .int .i64, .int .i64, .int .u64, .int .u64, .str, .int .i64, .int .i64, .int .u64, .int .u64, .str]
abbrev lsDeed : List Leaf := [.int .i64, .int .i64, .int .i64, .int .i64, .int .i64, .int .i64, .int .u64, .int .u64, .str, .int .i64, .int .i64, .int .u64, .int .u64, .str, .int .u64]
theorem space_of {B : Nat} {vs : List Value} (h : Match B lsSpace vs) : ∃ s : Space, vs = valsOf s.pv := by
  obtain ⟨a, _, rfl, _, h⟩ := mI h
  obtain ⟨b, _, rfl, _, h⟩ := mI h
  obtain ⟨c, _, rfl, _, h⟩ := mI h
  obtain ⟨d, _, rfl, _, h⟩ := mI h
  obtain ⟨e, _, rfl, _, h⟩ := mI h
  obtain ⟨f, _, rfl, _, h⟩ := mI h
  obtain ⟨g, _, rfl, _, h⟩ := mI h
  cases mE h
  exact ⟨⟨a, ⟨b, c, d⟩, ⟨e, f, g⟩⟩, rfl⟩
theorem pfx_of {B : Nat} (hB : B ≤ 2000000) {vs : List Value} (h : Match B lsPfx vs) : ∃ p : Pfx, vs = valsOf p.pv ∧ p.ok := by
  obtain ⟨a, _, rfl, _, h⟩ := mI h
  obtain ⟨b, _, rfl, _, h⟩ := mI h
  obtain ⟨c, _, rfl, _, h⟩ := mI h
  obtain ⟨d, _, rfl, _, h⟩ := mI h
  obtain ⟨e, _, rfl, we, h⟩ := mI h
  obtain ⟨f, _, rfl, wf, h⟩ := mI h
  obtain ⟨g, _, rfl, hg, h⟩ := mS h
  obtain ⟨c', _, rfl, _, h⟩ := mI h
  obtain ⟨d', _, rfl, _, h⟩ := mI h
  obtain ⟨e', _, rfl, we', h⟩ := mI h
  obtain ⟨f', _, rfl, wf', h⟩ := mI h
  obtain ⟨g', _, rfl, hg', h⟩ := mS h
  cases mE h
  obtain ⟨e, rfl⟩ := bv_int we
  obtain ⟨f, rfl⟩ := bv_int wf
  obtain ⟨e', rfl⟩ := bv_int we'
  obtain ⟨f', rfl⟩ := bv_int wf'
  exact ⟨⟨a, b, ⟨c, d, e, f, g⟩, ⟨c', d', e', f', g'⟩⟩, rfl, by simp only [Pfx.ok]; omega⟩
theorem deed_of {B : Nat} (hB : B ≤ 2000000) {vs : List Value} (h : Match B lsDeed vs) : ∃ d : Deed, vs = valsOf d.pv ∧ d.load.p.ok := by
  obtain ⟨x, _, rfl, _, h⟩ := mI h
  obtain ⟨y, _, rfl, _, h⟩ := mI h
  obtain ⟨a, _, rfl, _, h⟩ := mI h
  obtain ⟨b, _, rfl, _, h⟩ := mI h
  obtain ⟨c, _, rfl, _, h⟩ := mI h
  obtain ⟨d, _, rfl, _, h⟩ := mI h
  obtain ⟨e, _, rfl, we, h⟩ := mI h
  obtain ⟨f, _, rfl, wf, h⟩ := mI h
  obtain ⟨g, _, rfl, hg, h⟩ := mS h
  obtain ⟨c', _, rfl, _, h⟩ := mI h
  obtain ⟨d', _, rfl, _, h⟩ := mI h
  obtain ⟨e', _, rfl, we', h⟩ := mI h
  obtain ⟨f', _, rfl, wf', h⟩ := mI h
  obtain ⟨g', _, rfl, hg', h⟩ := mS h
  obtain ⟨w, _, rfl, ww, h⟩ := mI h
  cases mE h
  obtain ⟨e, rfl⟩ := bv_int we
  obtain ⟨f, rfl⟩ := bv_int wf
  obtain ⟨e', rfl⟩ := bv_int we'
  obtain ⟨f', rfl⟩ := bv_int wf'
  obtain ⟨w, rfl⟩ := bv_int ww
  exact ⟨⟨x, y, ⟨⟨a, b, ⟨c, d, e, f, g⟩, ⟨c', d', e', f', g'⟩⟩, w⟩⟩, rfl, by simp only [Pfx.ok]; omega⟩
theorem enc_space : Enc Space.pv 7 where
  agg := fun x => ⟨x.cells, rfl, rfl, fun c hc => by
    simp only [Space.cells, List.mem_cons, List.not_mem_nil, or_false] at hc
    rcases hc with h | h | h | h | h | h | h <;> subst h <;> exact ⟨_, rfl, rfl⟩⟩
theorem enc_deed : Enc Deed.pv 15 where
  agg := fun x => ⟨x.cells, rfl, rfl, fun c hc => by
    simp only [Deed.cells, List.mem_cons, List.not_mem_nil, or_false] at hc
    rcases hc with h | h | h | h | h | h | h | h | h | h | h | h | h | h | h <;> subst h <;> exact ⟨_, rfl, rfl⟩⟩
end Go.Pi.M

namespace Go.Proofs.YtcmkgbboldchbaaGreatDoor.modelTells
open Go.Pi Go.Pi.M Go.RowKit Go.ChangeShapes Go.WideShapes Go.ChangeAt

theorem own : ownKnob Tryz.prog.godebug = none := by kernel_rfl
theorem laidOut : laidOutB Tryz.prog = true := by kernel_rfl
theorem l26 : leaves Tryz.prog 10 26 = some lsSpace := by kernel_rfl
theorem l34 : leaves Tryz.prog 10 34 = some lsPfx := by kernel_rfl
theorem l48 : leaves Tryz.prog 10 48 = some lsDeed := by kernel_rfl
theorem c48 : Tryz.prog.cellsOf 48 = 15 := by kernel_rfl
theorem readable : (Tryz.f3.params.toList.all fun t => Tryz.prog.readableRec t && decide (t < Tryz.prog.types.size)) = true := by kernel_rfl

theorem bulk_pos {H : Type} (d : DataW H) : 1 ≤ Rows.uptoBulk d := by
  cases d with
  | lit l => cases l <;> simp [Rows.uptoBulk]
  | nil => simp [Rows.uptoBulk]
  | ptr d => simp [Rows.uptoBulk]
  | slice elems spare => simp [Rows.uptoBulk]
  | agg parts => simp [Rows.uptoBulk]
  | iface t d => simp [Rows.uptoBulk]
  | map entries => simp [Rows.uptoBulk]
  | held h => simp [Rows.uptoBulk]
theorem bulk_len {H : Type} : ∀ l : List (DataW H), l.length ≤ Rows.uptoBulkAll l
  | [] => by simp [Rows.uptoBulkAll]
  | x :: r => by
    have h1 := bulk_pos x
    have h2 := bulk_len r
    simp only [Rows.uptoBulkAll, List.length_cons]; omega
mutual
theorem text_bulk {H : Type} : ∀ d : DataW H, textMax d ≤ Rows.uptoBulk d
  | .lit l => by cases l <;> simp [textMax, Rows.uptoBulk]
  | .nil => by simp [textMax]
  | .ptr _ => by simp [textMax]
  | .slice elems spare => by
    have := text_bulk_all elems
    simp only [textMax, Rows.uptoBulk]; omega
  | .agg parts => by
    have := text_bulk_all parts
    simp only [textMax, Rows.uptoBulk]; omega
  | .iface _ _ => by simp [textMax]
  | .map _ => by simp [textMax]
  | .held _ => by simp [textMax]
theorem text_bulk_all {H : Type} : ∀ l : List (DataW H), textMax.go l ≤ Rows.uptoBulkAll l
  | [] => by simp [textMax.go]
  | d :: r => by
    have h1 := text_bulk d
    have h2 := text_bulk_all r
    simp only [textMax.go, Rows.uptoBulkAll]; omega
end

theorem elems_bulk {H : Type} (d : DataW H) : elemsLen d ≤ Rows.uptoBulk d := by
  cases d with
  | slice elems spare =>
    have := bulk_len elems
    simp only [elemsLen, Rows.uptoBulk]; omega
  | _ => simp [elemsLen]
set_option maxRecDepth 100000 in
theorem contract (H : Type) (enc : TypeId × Value → H) (W : World) (base : Nat) (args : Array Value) (ds gs : List (DataW H)) (before : List MemPlace)
    (hval : ∀ (j : Nat) t v, Tryz.f3.params[j]? = some t → args[j]? = some v → Value.okWide Tryz.prog W .any base t v)
    (hW : DataW.Whole enc Tryz.prog Tryz.f3.params.toList Rows.modelTellsSpec.vars false W args.toList ds gs before) (hk : Rows.uptoSmall H (ds ++ gs) = true) :
    Calls Tryz.prog 3 args W fun e W' => ∃ v, e = .returned v ∧ Rows.modelTellsSpec.post enc Tryz.prog Tryz.f3 false true false false W args v W' := by
  have hW' := hW
  obtain ⟨p, q, hA0, hV, rfl, hfz, hnd⟩ := hW
  have hA : DataW.TrodAll enc Tryz.prog W 0 (fun _ => true) true Tryz.f3.params.toList args.toList ds p := hA0
  rw [Tryz.params3] at hA hval
  obtain ⟨v0, vs0, d0, ds0, p0, q0, hargs, rfl, rfl, h0, r0⟩ := trodAll_cons hA
  obtain ⟨v1, vs1, d1, ds1, p1, q1, rfl, rfl, rfl, h1, r1⟩ := trodAll_cons r0
  obtain ⟨v2, vs2, d2, ds2, p2, q2, rfl, rfl, rfl, h2, r2⟩ := trodAll_cons r1
  obtain ⟨rfl, rfl, rfl⟩ := trodAll_nil r2
  obtain rfl : args = #[v0, v1, v2] := by cases args; simp_all
  obtain ⟨rfl, rfl⟩ := trodVars_none hV
  clear hA0
  have hbulk : Rows.uptoBulk d0 + (Rows.uptoBulk d1 + Rows.uptoBulk d2) ≤ 1048576 := by
    have h : Rows.uptoBulkAll ([d0, d1, d2] ++ []) ≤ 1048576 := of_decide_eq_true hk
    simp only [List.append_nil, Rows.uptoBulkAll] at h
    omega
  -- the space
  obtain ⟨cs0, rfl, _⟩ := okWide_struct Tryz.underlying26 (hval 0 26 v0 rfl rfl)
  obtain ⟨f0, h0⟩ := h0
  obtain ⟨s, hs⟩ := space_of (leaves_trod 10 l26 h0).1
  have hs' : cs0.toList = valsOf s.pv := hs
  -- the prefix
  obtain ⟨cs2, rfl, _⟩ := okWide_struct Tryz.underlying34 (hval 2 34 v2 rfl rfl)
  obtain ⟨f2, h2⟩ := h2
  obtain ⟨x, hx, hxo⟩ := pfx_of (B := textMax d2) (by have := text_bulk d2; omega) (leaves_trod 10 l34 h2).1
  have hx' : cs2.toList = valsOf x.pv := hx
  -- the deeds
  obtain ⟨a1, len1, cap1, rfl⟩ := okWide_slice Tryz.underlying27 (hval 1 27 v1 rfl rfl)
  obtain ⟨f1, h1⟩ := h1
  obtain ⟨l, π, hlo, hπ, hl, hll⟩ := slice_args enc_deed (ok := fun d => d.load.p.ok) Tryz.underlying27 l48 c48 (by decide) (fun r hr => deed_of (by have := text_bulk d1; omega) hr) h1 (fun b off hp => hfz b off (by simp [hp]))
  have hllen : l.length ≤ 2000000 := by
    have := elems_bulk d1
    omega
  have hrel0 : VRel W [] π s.pv (.agg cs0) := by
    have := enc_space.rel s W [] π
    rw [← hs'] at this
    simpa using this
  have hrel2 : VRel W [] π x.pv (.agg cs2) := by
    have := enc_pfx.rel x W [] π
    rw [← hx'] at this
    simpa using this
  have hH : HRel W [] π (fun _ => False) [] := { len := rfl, nd := by simp, lt := by simp, ob := ⟨fun _ _ => none, by simp, by simp, by simp, by simp, fun id o b ho => by simp at ho⟩, pr := fun b o hp => ⟨by rintro ⟨id, o, h1, _⟩; simp at h1, hπ b o hp⟩ }
  have hnl : ∀ b, ¬ Live [] [] b := by rintro b ⟨id, o, h1, _⟩; simp at h1
  have hAr : ArgsRel W [] π [s.pv, .slc false (l.map Deed.pv), x.pv] #[.agg cs0, .slice a1 len1 cap1, .agg cs2] := by
    refine ⟨rfl, fun i z u hz hu => ?_⟩
    match i, hz, hu with
    | 0, hz, hu => simp at hz hu; subst hz; subst hu; exact hrel0
    | 1, hz, hu => simp at hz hu; subst hz; subst hu; exact hl
    | 2, hz, hu => simp at hz hu; subst hz; subst hu; exact hrel2
  have main := tells_spec s l x false hllen hlo hxo W [] π (fun _ => False) _ hH hAr
  have hcalls : Calls Tryz.prog 3 #[.agg cs0, .slice a1 len1 cap1, .agg cs2] W fun e w' => ∃ v, e = .returned v ∧ After W [] π (fun _ => False) [] (fun r _ => r = bo true) v w' := by
    rcases main with ⟨_, hc⟩ | ⟨v, w', hr, _⟩
    · exact hc
    · rw [enters_of Tryz.func3 (by kernel_rfl) rfl] at hr; cases hr
  refine hcalls.mono fun e W' ⟨v, he, r, H', bl', π', O', hr, hv, hHR, hOG, hF⟩ => ?_
  subst hr
  cases hv
  subst he
  have hb : Below W.heap.size W W' := ⟨hF.os, hF.tape, hF.output, hF.size, fun k hk => hF.block k hk (hnl k) (by simp)⟩
  refine ⟨_, rfl, post_of_below laidOut (fun t ht => ?_) rfl hW' (fun _ _ _ => ?_) (by simp [Rows.modelTellsSpec]) (by simp [Rows.modelTellsSpec]) hb (ok_one (by kernel_rfl) rfl (okWide_bool_mk Tryz.underlying4 _))⟩
  · have := List.all_eq_true.1 readable t ht
    simpa using this
  · exact trodAll_cons_mk (shut_bool Tryz.underlying4 _) trodAll_mk0

/-! A world for the witness -/
def acceptCells : List Int := [128, 191, 160, 191, 128, 159, 144, 191, 128, 143, 0, 0, 0, 0, 0, 0, 0, 0, 0, 0, 0, 0, 0, 0, 0, 0, 0, 0, 0, 0, 0, 0]
noncomputable def laidWorld (os : Os) : World :=
  let w0 := World.holding Tryz.prog os ⟨#[], #[], []⟩
  let put (h : Array Obj) (g : Nat) (cs : Array Value) : Array Obj := h.modify g fun
    | .cells _ t frozen => .cells cs t frozen
    | o => o
  { w0 with heap := put (put w0.heap 1 (Go.Pinned.utf8FirstZ.map fun (z : Nat) => Value.int .u8 (z : Int)).toArray) 2 (acceptCells.map fun z => Value.int .u8 z).toArray }
def zeroI : Value := .int .i64 0
def zeroU : Value := .int .u64 0
def zeroKey : List Value := [zeroI, zeroI, zeroU, zeroU, .string .empty]
def wArgs : Array Value := #[.agg #[zeroI, zeroI, zeroI, zeroI, zeroI, zeroI, zeroI], .slice none 0 0, .agg ([zeroI, zeroI] ++ zeroKey ++ zeroKey).toArray]
def litI {H : Type} : DataW H := .lit (.int .i64 0)
def litU {H : Type} : DataW H := .lit (.int .u64 0)
def litKey {H : Type} : DataW H := .agg [litI, litI, litU, litU, .lit (.string [])]
def wData {H : Type} : List (DataW H) := [.agg [litI, .agg [.agg [litI, litI, litI], .agg [litI, litI, litI]]], .nil, .agg [.agg [litI, litI], .agg [litKey, litKey]]]
theorem laid_met (os : Os) : laidMet Tryz.prog Rows.modelTellsUptoRow.laid ((laidWorld os).forCall (fun _ _ => 0) ⟨#[], wArgs, []⟩).memory :=
  laidMet_of_run' 8 (by kernel_rfl) (by kernel_rfl)
theorem reads (os : Os) {H : Type} (enc : TypeId × Value → H) : ∃ places, DataW.whole enc Tryz.prog ((laidWorld os).forCall (fun _ _ => 0) ⟨#[], wArgs, []⟩).memory Tryz.f3.params.toList Rows.modelTellsSpec.vars false wArgs.toList 8 = some (wData, [], places) :=
  ⟨[], by kernel_rfl⟩

set_option maxRecDepth 100000 in
theorem liftedUpto (os : Os) (started : os.Started) (H : Type) (enc : TypeId × Value → H) (F : Stop.Interp) :
    ReturnsInHanded {} Tryz.checked os 3 .any ((Rows.OpenSpec.upto Rows.modelTellsSpec).preRow enc Tryz.prog Tryz.f3 Rows.modelTellsUptoRow.domain false Rows.modelTellsUptoRow.laid) (((Rows.OpenSpec.upto Rows.modelTellsSpec).at F).post enc Tryz.prog Tryz.f3 false true false false) := by
  obtain ⟨places, hx⟩ := reads os enc
  refine returnsInHanded_of_row (C := Tryz.checked) (s := Rows.OpenSpec.upto Rows.modelTellsSpec) own started (by kernel_rfl) Tryz.func3
    (witness_row_at (enc := enc) (C := Tryz.checked) false (laidWorld os) wArgs rfl (by kernel_rfl) (by kernel_rfl) (by kernel_rfl)
      (OpenSpec.preRow_of_cond 8 hx (by kernel_rfl) (fun k hk => by cases hk; kernel_rfl) (by kernel_rfl) (laid_met os))) ?_
  intro W base args ds gs before hval hW _ hcond _ _ _ _
  exact contract H enc W base args ds gs before hval hW (hcond _ rfl)

set_option maxRecDepth 100000 in
theorem saidUpto : Rows.ModelTellsUptoSaid :=
  OpenClaim.holds_of_cond 3 Tryz.f3 rfl rfl rfl rfl rfl rfl rfl ⟨rfl, rfl, rfl, rfl, rfl⟩ rfl rfl rfl rfl rfl (by kernel_rfl) Tryz.func3 (by kernel_rfl)
    (of_decide_eq_true (by kernel_rfl)) (by unfold Func.isWrapper; first | (rw [if_pos (by decide +kernel)]; kernel_rfl) | (rw [if_neg (by decide +kernel)]; exact ⟨rfl, rfl⟩))
    (fun os started H enc _ F => by rw [OpenClaim.pre_eq_preRow]; exact liftedUpto os started H enc F)

theorem plain (f : FuncId) (fn : Func) (hf : Tryz.pinned.checked.prog.funcNamed Rows.modelTellsUptoRow.func = some f) (hfn : Tryz.pinned.checked.prog.funcs[f]? = some fn) :
    false = Tryz.pinned.checked.prog.looks [] ∧ ∀ (j : Nat) t, fn.params[j]? = some t → Tryz.pinned.checked.prog.wantsStandIn t = false := by
  obtain rfl : f = 3 := Option.some.inj ((show Tryz.prog.funcNamed Rows.modelTellsUptoRow.func = some 3 by kernel_rfl).symm.trans hf) |>.symm
  obtain rfl : fn = Tryz.f3 := (Option.some.inj (Tryz.func3.symm.trans hfn)).symm
  refine ⟨by kernel_rfl, fun j t ht => ?_⟩
  rw [Tryz.params3] at ht
  have hm : t = 26 ∨ t = 27 ∨ t = 34 := by simpa using Array.mem_of_getElem? ht
  rcases hm with rfl | rfl | rfl
  · exact (show Tryz.prog.wantsStandIn 26 = false by kernel_rfl)
  · exact (show Tryz.prog.wantsStandIn 27 = false by kernel_rfl)
  · exact (show Tryz.prog.wantsStandIn 34 = false by kernel_rfl)

theorem cardUpto : Rows.ModelTellsUptoCardSaid :=
  Claim7.holds_tied_plain_at .later [] _ _ _ _ saidUpto (fun _ h => by cases h) (by kernel_rfl) (fun _ h => by cases h) modelTellsUpto_row_tie rfl ⟨rfl, rfl⟩ (by kernel_rfl) rfl plain (by kernel_rfl)
end Go.Proofs.YtcmkgbboldchbaaGreatDoor.modelTells
