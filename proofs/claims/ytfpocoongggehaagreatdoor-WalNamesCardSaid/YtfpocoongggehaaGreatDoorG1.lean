/- What the listed variables hold when a law begins. -/
import Derived.Test.YtfpocoongggehaaGreatDoorRows
import Derived.Test.YtfpocoongggehaaGreatDoorL4
import Derived.ProofKit
import Derived.LaidMore
import Derived.OpenShut
import Derived.Stop.Joined
import Derived.Stop.LaidErr
import Derived.LaidLaws
import Derived.Lib.LaidTab
import Derived.Lib.ItoaMem
import Derived.MakeChecks
import Derived.Below
import Derived.ChangeSame
set_option linter.all false
namespace Go.Proofs.YtfpocoongggehaaGreatDoor
open Go.ChangeShapes Go.WideShapes Go.ChangeAt Go.WideMaps Go.WideElems Go.RowKit

theorem own : ownKnob Tryz.prog.godebug = none := by kernel_rfl
theorem gPow : Tryz.prog.globalNamed "internal/strconv.uint64pow10" = some 2 := by kernel_rfl
theorem gSyn : Tryz.prog.globalNamed "strconv.ErrSyntax" = some 0 := by kernel_rfl
theorem gRng : Tryz.prog.globalNamed "strconv.ErrRange" = some 1 := by kernel_rfl
theorem star : "*" ++ "errors.errorString" = "*errors.errorString" := by decide
theorem tyPow : Rows.laid_internal_strconv_uint64pow10 (H := Unit) = Lib.tabData .u64 Lib.pow10Tab := by kernel_rfl

abbrev laid3 : List (String × DataW Unit) := [("math/bits.deBruijn32tab", Rows.laid_math_bits_deBruijn32tab), ("math/bits.deBruijn64tab", Rows.laid_math_bits_deBruijn64tab), ("internal/strconv.uint64pow10", Rows.laid_internal_strconv_uint64pow10)]
abbrev laid5 : List (String × DataW Unit) := [("math/bits.deBruijn32tab", Rows.laid_math_bits_deBruijn32tab), ("math/bits.deBruijn64tab", Rows.laid_math_bits_deBruijn64tab), ("internal/strconv.uint64pow10", Rows.laid_internal_strconv_uint64pow10), ("strconv.ErrRange", Rows.laid_strconv_ErrRange), ("strconv.ErrSyntax", Rows.laid_strconv_ErrSyntax)]

theorem pow_of {r : List (String × DataW Unit)} {W : World} (h : laidMet Tryz.prog (("internal/strconv.uint64pow10", Rows.laid_internal_strconv_uint64pow10) :: r) W) : Lib.TabIs Tryz.prog W "internal/strconv.uint64pow10" .u64 Lib.pow10Tab := by
  rw [tyPow] at h
  exact Lib.tabIs_of_head gPow (t := 271) (by kernel_rfl) Tryz.underlying271 (e := 22) Tryz.underlying22 (by kernel_rfl) (by kernel_rfl) h

/-- Places of the listed variables stay as they are. -/
abbrev fixedAt (W : World) : Abs.Fixed := ⟨W, fun c => c < 3⟩

theorem laid0_of {W : World} (h : Lib.TabIs Tryz.prog W "internal/strconv.uint64pow10" .u64 Lib.pow10Tab) : @Laid0 (fixedAt W) := by
  letI := fixedAt W
  exact ⟨h, fun g hg => by rw [gPow] at hg; cases hg; show 2 < 3; decide⟩

theorem row289 (u : TypeId) (h : Tryz.prog.typeName? 3 u = some "*errors.errorString") : u = 289 :=
  typeName_ptr_named (nm := "errors.errorString") (by rw [star]; kernel_rfl) (by kernel_rfl) (by decide) u (by rw [star]; exact h)

theorem rng_of {r : List (String × DataW Unit)} {W : World} (h : laidMet Tryz.prog (("strconv.ErrRange", Rows.laid_strconv_ErrRange) :: r) W) : ∃ tp p, W.var? Tryz.prog "strconv.ErrRange" = some #[.iface tp p] := by
  obtain ⟨a, s, hv, -, -, -⟩ := laid_sentinel h gRng (ti := 153) (by kernel_rfl) Tryz.underlying153 row289 Tryz.underlying289 Tryz.underlying291 rfl rfl Tryz.underlying9 (by kernel_rfl) (by kernel_rfl)
  exact ⟨_, _, hv⟩
theorem syn_of {r : List (String × DataW Unit)} {W : World} (h : laidMet Tryz.prog (("strconv.ErrSyntax", Rows.laid_strconv_ErrSyntax) :: r) W) : ∃ tp p, W.var? Tryz.prog "strconv.ErrSyntax" = some #[.iface tp p] := by
  obtain ⟨a, s, hv, -, -, -⟩ := laid_sentinel h gSyn (ti := 153) (by kernel_rfl) Tryz.underlying153 row289 Tryz.underlying289 Tryz.underlying291 rfl rfl Tryz.underlying9 (by kernel_rfl) (by kernel_rfl)
  exact ⟨_, _, hv⟩

theorem var_lt {W : World} {name : String} {g : Nat} {x : Array Value} (hg : Tryz.prog.globalNamed name = some g) (h : W.var? Tryz.prog name = some x) : g < W.heap.size := by
  unfold World.var? at h
  rw [hg] at h
  simp only [Option.bind_some] at h
  split at h
  · rename_i he; exact (Array.getElem?_eq_some_iff.1 he).1
  · cases h

/-- All that the laws' walks ask of the start. -/
structure Start (W : World) : Prop where
  l0 : @Laid0 (fixedAt W)
  size : 2 < W.heap.size

theorem start3 {W : World} (h : laidMetH Tryz.prog laid3 W) : Start W := by
  rw [MakeChecks.laidMetH_plain _ _ _ (by kernel_rfl)] at h
  have t := pow_of h.tail.tail
  exact ⟨laid0_of t, var_lt gPow t⟩
theorem start5 {W : World} (h : laidMetH Tryz.prog laid5 W) : Start W ∧ @Laid1 (fixedAt W) := by
  rw [MakeChecks.laidMetH_plain _ _ _ (by kernel_rfl)] at h
  have t := pow_of h.tail.tail
  letI := fixedAt W
  exact ⟨⟨laid0_of t, var_lt gPow t⟩, { laid0_of t with
    syn := syn_of h.tail.tail.tail.tail
    sts := fun g hg => by rw [gSyn] at hg; cases hg; show 0 < 3; decide
    rng := rng_of h.tail.tail.tail
    str := fun g hg => by rw [gRng] at hg; cases hg; show 1 < 3; decide }⟩

/-- The machine's hooks hold at the start. -/
theorem envOk3 {W : World} (h : Start W) : @Abs.EnvOk (fixedAt W) (EE false) := by
  letI := fixedAt W
  exact Abs.envOk_withHook (envOk0 false h.l0 (fun h => by cases h)) (plain_of Tryz.func19 (by kernel_rfl) (by kernel_rfl)) (Abs.ok_const (k := 2) (envOk0 false h.l0 (fun h => by cases h)) make_run (by kernel_rfl))
theorem envOk5 {W : World} (h : Start W ∧ @Laid1 (fixedAt W)) : @Abs.EnvOk (fixedAt W) (EE true) := by
  letI := fixedAt W
  exact Abs.envOk_withHook (envOk0 true h.1.l0 (fun _ => h.2)) (plain_of Tryz.func19 (by kernel_rfl) (by kernel_rfl)) (Abs.ok_const (k := 2) (envOk0 false h.1.l0 (fun h => by cases h)) make_run (by kernel_rfl))

/-- A call on the machine from no memory, with a closed answer. -/
theorem closed_calls {W : World} (hs : Start W) {E : Abs.Env0} (hE : @Abs.EnvOk (fixedAt W) E) {f : Nat} {H0 : Abs.Heap} {v : Value} (h : Abs.semCall E f [] Abs.Heap.empty = some (v, H0)) (hv : Abs.clo 1 v = true) :
    Calls E.P f #[] W fun e W' => e = .returned v ∧ Below W.heap.size W W' := by
  letI := fixedAt W
  have hR : Abs.R (fun _ => none) Abs.Heap.empty W := Abs.R.empty W fun c hc => ⟨rfl, by have := hs.size; have : c < 3 := hc; omega⟩
  refine (Abs.sem_sound hE h hR (Abs.LRel.nil _)).mono fun e W' hh => ?_
  obtain ⟨σ', r', h1, h2, st⟩ := hh
  refine ⟨by rw [h1, h2.eq_of_clo hv], ⟨st.quiet.os, st.quiet.tape, st.quiet.output, st.size, fun c hc => st.keep c hc fun b l x hb => by cases hb⟩⟩

section
variable {H : Type} {enc : TypeId × Value → H} {P : Program}
/-- The row's last step (the guide's 'post_of_below'). -/
theorem post_of_below {f : Func} {s : ChangeSpec} {apart fresh handsOn again : Bool} {W W' : World} {args : Array Value} {v : Value} {ds gs : List (DataW H)} {before pa pv : List MemPlace}
    (hW : DataW.Whole enc P f.params.toList s.vars apart W args.toList ds gs before)
    (hres : ∀ (b : Nat) (sp : Nat → Bool) (hd : Bool), DataW.TrodAll enc P W' b sp hd f.resultTypes.toList (v.resultList f.resultTypes.size) (s.fn H (ds ++ gs)).results [])
    (hargs : ∀ sp : Nat → Bool, (∀ p ∈ before, sp p.block = true) → DataW.TrodAll enc P W' 0 sp true f.params.toList args.toList (s.fn H (ds ++ gs)).args pa)
    (hvars : ∀ sp : Nat → Bool, (∀ p ∈ before, sp p.block = true) → DataW.TrodVars enc P W' sp s.vars (s.fn H (ds ++ gs)).vars pv)
    (hps : before = pa ++ pv) (hb : Below W.heap.size W W')
    (hok : ∀ (j : Nat) (t : TypeId) (r : Value), f.resultTypes[j]? = some t → (v.resultList f.resultTypes.size)[j]? = some r → Value.okWide P W' .any 0 t r) :
    s.post enc P f apart fresh handsOn again W args v W' := by
  have hlt : ∀ p ∈ before, p.block < W.heap.size := fun p hp => hW.lt p hp
  have hold : ∀ p ∈ before, (fun b => decide (b < W.heap.size)) p.block = true := fun p hp => by simpa using hlt p hp
  refine ⟨ds, gs, before, [], pa, pv, hW, hres _ _ _, hargs _ hold, hvars _ hold, World.keptBut_mono (fun p hp => ⟨hp, ?_⟩) (hb.frame (· ∈ before)), fun _ => ?_⟩
  · rw [hps, List.mem_append] at hp
    exact Or.inr hp
  · obtain ⟨_, _, _, _, _, hz, hn⟩ := hW
    refine ⟨hok, _, _, ([] ++ pa) ++ pv, ⟨[] ++ pa, pv, trodAll_append (hargs _ (fun _ _ => rfl)) (hres _ _ _), hvars _ (fun _ _ => rfl), rfl, ?_, ?_⟩, ?_⟩
    · intro b off hp
      have hin : MemPlace.cell b off ∈ before := by rw [hps]; simpa using hp
      rw [hb.frozen (hlt _ hin)]
      exact hz b off hin
    · intro ha
      have := hn ha
      rw [hps] at this
      simpa using this
    · intro p hp _
      rw [hps]
      simpa using hp
end

end Go.Proofs.YtfpocoongggehaaGreatDoor
