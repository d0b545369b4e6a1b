/- Hooks: closed calls; garbage and other numbers. Of no program. -/
import Derived.Test.YtfpocoongggehaaGreatDoorA35
import Derived.Test.YtfpocoongggehaaGreatDoorA32
set_option linter.all false
namespace Go.Abs
open Go
variable [Fixed]

/-- A call of closed values that hands back a closed value: nothing has come to pass. -/
theorem CallOk.closed {E : Env0} (hE : EnvOk E) {f : Nat} {args : List Value} {r : Value} {H0 : Heap} (h : semCall E f args Heap.empty = some (r, H0)) {k m : Nat} (ha : args.all (clo k) = true) (hr : clo m r = true)
    {σ : Map} {H : Heap} {w : World} {args' : List Value} (hR : R σ H w) (hargs : LRel σ args args') : CallOk E.P f args' σ H w r H := by
  have e : args = args' := List.ext_getElem hargs.1 fun i p q => (hargs.2 i p q).eq_of_clo (List.all_eq_true.1 ha _ (List.getElem_mem p))
  subst e
  have hR0 : R (fun _ => none) Heap.empty w := R.empty w fun c hc => ⟨(hR.fix c hc).1, (hR.fix c hc).2.1⟩
  refine CallOk.below hR (VRel.of_clo σ hr) ((sem_sound hE h hR0 (LRel.of_clo _ ha)).mono fun e w' hh => ?_)
  obtain ⟨σ', r', h1, h2, st⟩ := hh
  refine ⟨by rw [h1, h2.eq_of_clo hr], st.size, fun c hc => st.keep c hc fun b l x hb => (by cases hb), st.quiet⟩

/-! ### Other numbers -/

/-- The same value, with other block numbers. -/
inductive Ren (ρ : Nat → Nat) : Value → Value → Prop
  | bool (b : Bool) : Ren ρ (.bool b) (.bool b)
  | int (k : IntKind) (n : Int) : Ren ρ (.int k n) (.int k n)
  | string (s : ByteArray) : Ren ρ (.string s) (.string s)
  | pnil : Ren ρ (.pointer none) (.pointer none)
  | ptr {b o : Nat} : Ren ρ (.pointer (some ⟨b, o, none⟩)) (.pointer (some ⟨ρ b, o, none⟩))
  | snil : Ren ρ (.slice none 0 0) (.slice none 0 0)
  | slice {b o len cap : Nat} : Ren ρ (.slice (some ⟨b, o, none⟩) len cap) (.slice (some ⟨ρ b, o, none⟩) len cap)
  | mnil : Ren ρ (.map none) (.map none)
  | map {b : Nat} : Ren ρ (.map (some b)) (.map (some (ρ b)))
  | nilFunc : Ren ρ .nilFunc .nilFunc
  | nilIface : Ren ρ .nilIface .nilIface
  | iface {t : TypeId} {v v' : Value} (h : Ren ρ v v') : Ren ρ (.iface t v) (.iface t v')
  | agg {a a' : List Value} (h1 : a.length = a'.length) (h2 : ∀ i, (h : i < a.length) → (h' : i < a'.length) → Ren ρ a[i] a'[i]) : Ren ρ (.agg ⟨a⟩) (.agg ⟨a'⟩)
  | tuple {a a' : List Value} (h1 : a.length = a'.length) (h2 : ∀ i, (h : i < a.length) → (h' : i < a'.length) → Ren ρ a[i] a'[i]) : Ren ρ (.tuple ⟨a⟩) (.tuple ⟨a'⟩)

def LRen (ρ : Nat → Nat) (a a' : List Value) : Prop := a.length = a'.length ∧ ∀ i, (h : i < a.length) → (h' : i < a'.length) → Ren ρ a[i] a'[i]

theorem LRen.nil {ρ : Nat → Nat} : LRen ρ [] [] := ⟨rfl, fun _ h => absurd h (by simp)⟩
theorem LRen.cons {ρ : Nat → Nat} {v v' : Value} {a a' : List Value} (h : Ren ρ v v') (hs : LRen ρ a a') : LRen ρ (v :: a) (v' :: a') := by
  refine ⟨by simp [hs.1], fun i h1 h2 => ?_⟩
  cases i with
  | zero => exact h
  | succ i => exact hs.2 i (by simpa using h1) (by simpa using h2)



theorem Ren.vrel {ρ : Nat → Nat} {σ τ : Map} (hτ : ∀ b l, σ (ρ b) = some l → τ b = some l) {v u : Value} (h : Ren ρ v u) : ∀ {v' : Value}, VRel σ u v' → VRel τ v v' := by
  induction h with
  | bool => intro v' h; cases h; exact .bool _
  | int => intro v' h; cases h; exact .int _ _
  | string => intro v' h; cases h; exact .string _
  | pnil => intro v' h; cases h; exact .pnil
  | ptr => intro v' h; cases h with | ptr hb => exact .ptr (hτ _ _ hb)
  | snil => intro v' h; cases h; exact .snil
  | slice =>
    intro v' h
    cases h with
    | hard hb hc hl => exact .hard (hτ _ _ hb) hc hl
    | hard0 => exact .hard0
    | soft hb hl he => exact .soft (hτ _ _ hb) hl he
    | soft0 hb he => exact .soft0 (hτ _ _ hb) he
  | mnil => intro v' h; cases h; exact .mnil
  | map => intro v' h; cases h with | map hb => exact .map (hτ _ _ hb)
  | nilFunc => intro v' h; cases h; exact .nilFunc
  | nilIface => intro v' h; cases h; exact .nilIface
  | iface _ ih => intro v' h; cases h with | iface h => exact .iface (ih h)
  | @agg a a' h1 _ ih =>
    intro v' h
    cases h with
    | @agg _ a2 g1 g2 => exact .agg (h1.trans g1) fun i p q => ih i p (by omega) (g2 i (by omega) q)
  | @tuple a a' h1 _ ih =>
    intro v' h
    cases h with
    | @tuple _ a2 g1 g2 => exact .tuple (h1.trans g1) fun i p q => ih i p (by omega) (g2 i (by omega) q)

theorem LRen.lrel {ρ : Nat → Nat} {σ τ : Map} (hτ : ∀ b l, σ (ρ b) = some l → τ b = some l) {a u : List Value} (h : LRen ρ a u) {a' : List Value} (g : LRel σ u a') : LRel τ a a' :=
  ⟨h.1.trans g.1, fun i p q => (h.2 i p (by have := h.1; omega)).vrel hτ (g.2 i (by have := h.1; omega) q)⟩

/-- The same block, with other numbers in it. -/
inductive BRen (ρ : Nat → Nat) : Blk → Blk → Prop
  | row {cs cs' : List Value} {sz : Nat} {ro : Bool} (h : LRen ρ cs cs') (h1 : cs.all Abs.oneCell = true) : BRen ρ (.row cs sz ro) (.row cs' sz ro)
  | mp {es es' : List (Value × Value)} (hk : es.map (·.1) = es'.map (·.1)) (hv : LRen ρ (es.map (·.2)) (es'.map (·.2))) : BRen ρ (.mp es) (.mp es')

theorem BRen.ro {ρ : Nat → Nat} {x y : Blk} (h : BRen ρ x y) : x.ro = y.ro := by cases h <;> rfl

theorem BRen.rel {ρ : Nat → Nat} {σ τ : Map} (hτ : ∀ b l, σ (ρ b) = some l → τ b = some l) {w : World} {l : Loc} {x y : Blk} (h : BRen ρ x y) (g : BlkRel σ w l y) : BlkRel τ w l x := by
  cases h with
  | @row cs cs' sz ro h h1 =>
    obtain ⟨C, e, fz, g1, g2, g3, g4, g5, g6, g7, g8⟩ := g
    refine ⟨C, e, fz, g1, g2, g3, by rw [h.1]; exact g4, ?_, g6, h1, g8⟩
    rw [h.1]; exact h.lrel hτ g5
  | mp hk hv =>
    obtain ⟨ms, c, g1, g2, g3, g4⟩ := g
    refine ⟨ms, c, g1, g2.trans hk.symm, hv.lrel hτ g3, fun e he => ?_, g4.2⟩
    have hm : e.1 ∈ List.map (fun (p : Value × Value) => p.1) _ := List.mem_map_of_mem (f := fun (p : Value × Value) => p.1) he
    rw [hk] at hm
    obtain ⟨e2, k1, k2⟩ := List.mem_map.1 hm
    rw [← k2]; exact g4.1 e2 k1

/-- What a call leaves may be told with other numbers, and without what nobody knows of. 'ρ': the told numbers' own. -/
theorem CallOk.gc {P : Program} {f : Nat} {args' : List Value} {σ : Map} {H : Heap} {w : World} {r : Value} {H' : Heap} (h : CallOk P f args' σ H w r H') (hR : R σ H w)
    (ρ : Nat → Nat) (K : Heap) (s : Value) (hn : H.next ≤ K.next) (hold : ∀ b, b < H.next → ρ b = b) (hnew : ∀ b, H.next ≤ b → b < K.next → H.next ≤ ρ b)
    (hinj : ∀ a b, a < K.next → b < K.next → ρ a = ρ b → a = b) (hfree : ∀ b, K.next ≤ b → K.get b = none)
    (hblk : ∀ b x, b < K.next → K.get b = some x → ∃ y, H'.get (ρ b) = some y ∧ BRen ρ x y) (hsame : ∀ b, b < H.next → H'.get b = H.get b → K.get b = H.get b)
    (hids : ∀ b x, K.get b = some x → BIds K.next x) (hr : Ren ρ s r) (hsr : Ids K.next s) : CallOk P f args' σ H w s K := by
  refine h.mono fun e w' hh => ?_
  obtain ⟨σ', r', h1, h2, st⟩ := hh
  obtain ⟨τ, hτdef⟩ : ∃ τ : Map, τ = fun b => if b < K.next then σ' (ρ b) else none := ⟨_, rfl⟩
  have hτ1 : ∀ b l, τ b = some l → b < K.next ∧ σ' (ρ b) = some l := by
    intro b l hb
    rw [hτdef] at hb
    simp only at hb
    split at hb
    · exact ⟨by assumption, hb⟩
    · cases hb
  have hτ2 : ∀ b l, b < K.next → σ' (ρ b) = some l → τ b = some l := by
    intro b l hb hl
    rw [hτdef]; simp only; rw [if_pos hb]; exact hl
  have hτ3 : ∀ b l, σ' (ρ b) = some l → (fun x => σ' (ρ x)) b = some l := fun _ _ h => h
  have cut : ∀ {v v' : Value}, VRel (fun x => σ' (ρ x)) v v' → Ids K.next v → VRel τ v v' := by
    intro v v' hv hi
    refine (hv.cut hi).mono fun b l hb => ?_
    obtain ⟨q1, q2⟩ := Map.cut_some hb
    exact hτ2 b l q1 q2
  refine ⟨τ, r', h1, cut (hr.vrel hτ3 h2) hsr, ⟨?_, ?_, hn, ⟨⟨hfree, hids, fun b l hb => (hτ1 b l hb).1, ?_, ?_, ?_⟩, ?_⟩, st.size, st.keep, ?_, ?_, st.quiet⟩⟩
  · intro b l hb
    have hd := hR.dom b l hb
    exact hτ2 b l (by omega) (by rw [hold b hd]; exact st.ext b l hb)
  · intro b l hb hs
    obtain ⟨q1, q2⟩ := hτ1 b l hb
    by_cases hlt : b < H.next
    · rw [hold b hlt] at q2
      have := (st.new b l q2 hs).1
      omega
    · refine ⟨by omega, ?_⟩
      have hge := hnew b (by omega) q1
      have hno : σ (ρ b) = none := by
        cases hq : σ (ρ b) with
        | none => rfl
        | some l2 => exact absurd (hR.dom _ _ hq) (by omega)
      exact (st.new (ρ b) l q2 hno).2
  · intro b l x hb hx
    obtain ⟨q1, q2⟩ := hτ1 b l hb
    obtain ⟨y, k1, k2⟩ := hblk b x q1 hx
    have g := k2.rel (τ := fun x => σ' (ρ x)) hτ3 (st.rel.live (ρ b) l y q2 k1)
    have hi := hids b x hx
    have := BlkRel.cut g (k := K.next) hi
    exact this.mono (fun b l hb => by obtain ⟨q1, q2⟩ := Map.cut_some hb; exact hτ2 b l q1 q2) rfl
  · intro b b' l l' x x' hb hb' hx hx' hc
    obtain ⟨q1, q2⟩ := hτ1 b l hb
    obtain ⟨q3, q4⟩ := hτ1 b' l' hb'
    obtain ⟨y, k1, k2⟩ := hblk b x q1 hx
    obtain ⟨y', k3, k4⟩ := hblk b' x' q3 hx'
    rcases st.rel.inj (ρ b) (ρ b') l l' y y' q2 q4 k1 k3 hc with hh | ⟨hh1, hh2⟩
    · exact .inl (hinj b b' q1 q3 hh)
    · exact .inr ⟨k2.ro.trans hh1, k4.ro.trans hh2⟩
  · intro b l hb; exact st.rel.inb _ l (hτ1 b l hb).2
  · intro c hc
    obtain ⟨k1, k2, k3⟩ := st.rel.fix c hc
    refine ⟨k1, k2, fun b l x hb hx hl => ?_⟩
    obtain ⟨q1, q2⟩ := hτ1 b l hb
    obtain ⟨y, g1, g2⟩ := hblk b x q1 hx
    exact g2.ro.trans (k3 (ρ b) l y q2 g1 hl)
  · intro b x hb hx
    obtain ⟨y, g1, g2⟩ := hblk b x (by omega) hx
    rw [hold b hb] at g1
    obtain ⟨z, z1, z2⟩ := st.old b y hb g1
    exact ⟨z, z1, z2.trans g2.ro.symm⟩
  · intro b hb hs
    exact hsame b hb (st.keepA b hb hs)

end Go.Abs
