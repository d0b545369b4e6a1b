/- What an operation hangs on: its operands; the heap or not. Of no program. -/
import Derived.Test.YtfpocoongggehaaGreatDoorA20
set_option linter.all false
namespace Go.Abs
open Go
variable [Fixed]

def AOp.opnds : AOp → List Operand
  | .mv x | .box x | .ld1 x | .ldn _ x | .nilck x | .mkiface _ x | .fadr _ x | .fld _ _ _ x | .ext x _ | .len _ x | .clear _ _ x | .cvsb x | .cvbs x => [x]
  | .pick c a b => [c, a, b]
  | .alloc _ => []
  | .build _ ps | .bslice _ _ _ ps => ps.map (·.2.2)
  | .st _ x v | .cmpref _ _ x v | .iadra _ _ x v | .iadrs _ x v | .idxa _ _ _ x v | .look _ _ x v _ | .mdel _ x v | .app _ _ x v | .copy _ x v | .mkslice _ _ _ x v => [x, v]
  | .prim o => o.op.operands.toList
  | .mkfunc _ a b => a ++ b
  | .mkmap r => r.toList
  | .slcs x lo hi => x :: lo.toList ++ hi.toList
  | .slcl _ x lo hi mx | .slca _ _ x lo hi mx => x :: lo.toList ++ hi.toList ++ mx.toList
  | .mput _ x k v => [x, k, v]
  | .call _ xs => xs
  | .callv x xs => x :: xs
  | .inv x _ xs => x :: xs

theorem avals_congr {e e' : Env} : ∀ {xs : List Operand}, (∀ x ∈ xs, aval e x = aval e' x) → avals e xs = avals e' xs
  | [], _ => rfl
  | x :: xs, h => by
    simp only [avals]
    rw [h x (by simp), avals_congr (fun y hy => h y (by simp [hy]))]

theorem avalo_congr {e e' : Env} {x : Option Operand} (h : ∀ y ∈ x.toList, aval e y = aval e' y) : avalo e x = avalo e' x := by
  cases x with
  | none => rfl
  | some x => simp only [avalo]; rw [h x (by simp)]

theorem partVals_congr {e e' : Env} : ∀ {ps : List Part}, (∀ x ∈ ps.map (·.2.2), aval e x = aval e' x) → partVals e ps = partVals e' ps
  | [], _ => rfl
  | (o, n, x) :: ps, h => by
    simp only [partVals]
    rw [h x (by simp), partVals_congr (fun y hy => h y (by simp only [List.map_cons, List.mem_cons]; exact .inr hy))]

theorem aop_congr {P : Program} {e e' : Env} {H : Heap} {op : AOp} (hsel : ∀ o, op = .prim o → ∀ cs b, o.op ≠ .select cs b) (h : ∀ x ∈ op.opnds, aval e x = aval e' x) : aop P e H op = aop P e' H op := by
  cases op with
  | prim o =>
    simp only [aop]
    have h1 : o.op.operands.toList.all (cloOp e) = o.op.operands.toList.all (cloOp e') := by
      rw [Bool.eq_iff_iff, List.all_eq_true, List.all_eq_true]
      constructor
      · intro hh x hx; have := hh x hx; unfold cloOp at *; rwa [← h x hx]
      · intro hh x hx; have := hh x hx; unfold cloOp at *; rwa [h x hx]
    have h2 : execOp (fun x => (aval e x).getD (.tuple #[])) o = execOp (fun x => (aval e' x).getD (.tuple #[])) o :=
      execOp_congr o (hsel o rfl) (fun x hx => by rw [h x (by simpa [AOp.opnds] using hx)])
    rw [h1, h2]
  | mkfunc f a b =>
    simp only [aop]
    rw [avals_congr (fun x hx => h x (by simp [AOp.opnds, hx])), avals_congr (xs := b) (fun x hx => h x (by simp [AOp.opnds, hx]))]
  | build z ps => simp only [aop]; rw [partVals_congr (fun x hx => h x hx)]
  | bslice sz len z ps => simp only [aop]; rw [partVals_congr (fun x hx => h x hx)]
  | mkmap r => simp only [aop]; rw [avalo_congr (fun x hx => h x hx)]
  | slcs x lo hi =>
    simp only [aop]
    rw [h x (by simp [AOp.opnds]), avalo_congr (x := lo) (fun y hy => h y (by simp only [AOp.opnds, List.mem_cons, List.mem_append, List.cons_append]; exact .inr (.inl hy))),
      avalo_congr (x := hi) (fun y hy => h y (by simp only [AOp.opnds, List.mem_cons, List.mem_append, List.cons_append]; exact .inr (.inr hy)))]
  | slcl sz x lo hi mx =>
    simp only [aop]
    rw [h x (by simp [AOp.opnds]), avalo_congr (x := lo) (fun y hy => h y (by simp only [AOp.opnds, List.mem_cons, List.mem_append, List.cons_append]; exact .inr (.inl (.inl hy)))),
      avalo_congr (x := hi) (fun y hy => h y (by simp only [AOp.opnds, List.mem_cons, List.mem_append, List.cons_append]; exact .inr (.inl (.inr hy)))),
      avalo_congr (x := mx) (fun y hy => h y (by simp only [AOp.opnds, List.mem_cons, List.mem_append, List.cons_append]; exact .inr (.inr hy)))]
  | slca n sz x lo hi mx =>
    simp only [aop]
    rw [h x (by simp [AOp.opnds]), avalo_congr (x := lo) (fun y hy => h y (by simp only [AOp.opnds, List.mem_cons, List.mem_append, List.cons_append]; exact .inr (.inl (.inl hy)))),
      avalo_congr (x := hi) (fun y hy => h y (by simp only [AOp.opnds, List.mem_cons, List.mem_append, List.cons_append]; exact .inr (.inl (.inr hy)))),
      avalo_congr (x := mx) (fun y hy => h y (by simp only [AOp.opnds, List.mem_cons, List.mem_append, List.cons_append]; exact .inr (.inr hy)))]
  | alloc z => rfl
  | call f xs => rfl
  | callv x xs => rfl
  | inv x t xs => rfl
  | mput kt x k v => simp only [aop]; rw [h x (by simp [AOp.opnds]), h k (by simp [AOp.opnds]), h v (by simp [AOp.opnds])]
  | pick c a b => simp only [aop]; rw [h c (by simp [AOp.opnds]), h a (by simp [AOp.opnds]), h b (by simp [AOp.opnds])]
  | mv x => simp only [aop]; rw [h x (by simp [AOp.opnds])]
  | box x => simp only [aop]; rw [h x (by simp [AOp.opnds])]
  | ld1 x => simp only [aop]; rw [h x (by simp [AOp.opnds])]
  | ldn n x => simp only [aop]; rw [h x (by simp [AOp.opnds])]
  | nilck x => simp only [aop]; rw [h x (by simp [AOp.opnds])]
  | mkiface t x => simp only [aop]; rw [h x (by simp [AOp.opnds])]
  | fadr n x => simp only [aop]; rw [h x (by simp [AOp.opnds])]
  | fld a b c x => simp only [aop]; rw [h x (by simp [AOp.opnds])]
  | ext x n => simp only [aop]; rw [h x (by simp [AOp.opnds])]
  | len m x => simp only [aop]; rw [h x (by simp [AOp.opnds])]
  | clear a b x => simp only [aop]; rw [h x (by simp [AOp.opnds])]
  | cvsb x => simp only [aop]; rw [h x (by simp [AOp.opnds])]
  | cvbs x => simp only [aop]; rw [h x (by simp [AOp.opnds])]
  | st n x v => simp only [aop]; rw [h x (by simp [AOp.opnds]), h v (by simp [AOp.opnds])]
  | cmpref k n x v => simp only [aop]; rw [h x (by simp [AOp.opnds]), h v (by simp [AOp.opnds])]
  | iadra a b x v => simp only [aop]; rw [h x (by simp [AOp.opnds]), h v (by simp [AOp.opnds])]
  | iadrs b x v => simp only [aop]; rw [h x (by simp [AOp.opnds]), h v (by simp [AOp.opnds])]
  | idxa a b c x v => simp only [aop]; rw [h x (by simp [AOp.opnds]), h v (by simp [AOp.opnds])]
  | look a b x v c => simp only [aop]; rw [h x (by simp [AOp.opnds]), h v (by simp [AOp.opnds])]
  | mdel a x v => simp only [aop]; rw [h x (by simp [AOp.opnds]), h v (by simp [AOp.opnds])]
  | app a b x v => simp only [aop]; rw [h x (by simp [AOp.opnds]), h v (by simp [AOp.opnds])]
  | copy a x v => simp only [aop]; rw [h x (by simp [AOp.opnds]), h v (by simp [AOp.opnds])]
  | mkslice a b c x v => simp only [aop]; rw [h x (by simp [AOp.opnds]), h v (by simp [AOp.opnds])]

theorem runOp_congr {E : Env0} {n : Nat} {e e' : Env} {H : Heap} {op : AOp} (hsel : ∀ o, op = .prim o → ∀ cs b, o.op ≠ .select cs b) (h : ∀ x ∈ op.opnds, aval e x = aval e' x) : runOp E n op e H = runOp E n op e' H := by
  cases n with
  | zero => rfl
  | succ n =>
    cases op with
    | call f xs => simp only [runOp]; rw [avals_congr (xs := xs) (fun x hx => h x hx)]
    | callv x xs => simp only [runOp]; rw [h x (by simp [AOp.opnds]), avals_congr (fun y hy => h y (by simp [AOp.opnds, hy]))]
    | inv x t xs => simp only [runOp]; rw [h x (by simp [AOp.opnds]), avals_congr (fun y hy => h y (by simp [AOp.opnds, hy]))]
    | _ => exact aop_congr (P := E.P) hsel h

theorem aop_pure {P : Program} {e : Env} {H H' : Heap} {op : AOp} {v : Value} (hk : op.kind = .pure) (h : aop P e H op = some (v, H')) : H' = H ∧ ∀ G, aop P e G op = some (v, G) := by
  cases op <;> first
    | (cases hk; done)
    | (simp only [aop, Bool.cond_eq_ite] at h ⊢
       (repeat' split at h) <;> first
         | (cases h; done)
         | (simp only [Option.some.injEq, Prod.mk.injEq] at h
            obtain ⟨rfl, rfl⟩ := h
            exact ⟨rfl, fun G => by simp_all⟩))

theorem cellsAt_mono {H G : Heap} (hm : ∀ b x, H.get b = some x → G.get b = some x) {b o n : Nat} {vs : List Value} (h : cellsAt H b o n = some vs) : cellsAt G b o n = some vs := by
  unfold cellsAt at *
  split at h
  · rename_i cs sz ro hg
    rw [hm b _ hg]; exact h
  · cases h

theorem aop_read {P : Program} {e : Env} {H H' : Heap} {op : AOp} {v : Value} (hk : op.kind = .read) (h : aop P e H op = some (v, H')) :
    H' = H ∧ ∀ G : Heap, (∀ b x, H.get b = some x → G.get b = some x) → aop P e G op = some (v, G) := by
  cases op <;> first
    | (cases hk; done)
    | skip
  case ld1 x =>
    simp only [aop] at h ⊢
    split at h
    · rename_i b o hx
      split at h
      · rename_i cs sz ro hg
        split at h
        · rename_i u hu
          cases h
          exact ⟨rfl, fun G hm => by simp only [hm b _ hg, hu]⟩
        · cases h
      · cases h
    · cases h
  case ldn n x =>
    simp only [aop] at h ⊢
    split at h
    · rename_i b o hx
      split at h
      · rename_i vs hc
        cases h
        exact ⟨rfl, fun G hm => by simp only [cellsAt_mono hm hc]⟩
      · cases h
    · cases h
  case slcl sz x lo hi mx =>
    simp only [aop] at h ⊢
    split at h
    · (repeat' split at h) <;> first
        | (cases h; done)
        | (cases h; exact ⟨rfl, fun G hm => by simp_all⟩)
    · rename_i b o len cap lo1 hi1 mx1 hx hlo hhi hmx
      simp only [bif_beq] at h ⊢
      split at h
      · (repeat' split at h) <;> first
          | (cases h; done)
          | (cases h; exact ⟨rfl, fun G hm => by simp_all⟩)
      · rename_i hc
        split at h
        · rename_i cs sz' ro hg
          simp only [Bool.cond_eq_ite] at h ⊢
          (repeat' split at h) <;> first
            | (cases h; done)
            | (cases h; exact ⟨rfl, fun G hm => by have := hm b _ hg; simp_all⟩)
        · cases h
    · cases h
  case look kt z x k ok =>
    simp only [aop, Bool.cond_eq_ite] at h ⊢
    split at h
    · split at h
      · cases h; exact ⟨rfl, fun G hm => by simp_all⟩
      · cases h
    · rename_i b kv hx hkv
      split at h
      · rename_i es hg
        (repeat' split at h) <;> first
          | (cases h; done)
          | (cases h; exact ⟨rfl, fun G hm => by have := hm b _ hg; simp_all⟩)
      · cases h
    · cases h
  case len m x =>
    simp only [aop] at h ⊢
    split at h
    · cases h; exact ⟨rfl, fun G hm => rfl⟩
    · cases h; exact ⟨rfl, fun G hm => rfl⟩
    · rename_i b hx
      split at h
      · rename_i es hg
        cases h
        exact ⟨rfl, fun G hm => by simp only [hm b _ hg]⟩
      · cases h
    · cases h
  case cvbs x =>
    simp only [aop, Bool.cond_eq_ite] at h ⊢
    split at h
    · cases h; exact ⟨rfl, fun G hm => rfl⟩
    · rename_i b o n cap hx
      split at h
      · cases h; exact ⟨rfl, fun G hm => by simp_all⟩
      · rename_i hn
        split at h
        · rename_i vs hc
          split at h
          · rename_i hall
            cases h
            exact ⟨rfl, fun G hm => by simp only [cellsAt_mono hm hc]; simp_all⟩
          · cases h
        · cases h
    · cases h

/-- What an operation that makes memory answers: an address, a slice, a map. -/
inductive Mk where
  | ptr
  | slice (n c : Nat)
  | map

def Mk.val : Mk → Nat → Value
  | .ptr, b => .pointer (some ⟨b, 0, none⟩)
  | .slice n c, b => .slice (some ⟨b, 0, none⟩) n c
  | .map, b => .map (some b)

theorem Mk.rel {σ : Map} {m : Mk} {b : Nat} {v' : Value} (h : VRel σ (m.val b) v') : (∃ l, σ b = some l ∧ ∀ (τ : Map) c, τ c = some l → VRel τ (m.val c) v') ∨ (∀ (τ : Map) c, VRel τ (m.val c) v') := by
  cases m with
  | ptr => cases h with | ptr hb => exact .inl ⟨_, hb, fun τ c hc => .ptr hc⟩
  | map => cases h with | map hb => exact .inl ⟨_, hb, fun τ c hc => .map hc⟩
  | slice n c =>
    cases h with
    | hard hb h1 h2 => exact .inl ⟨_, hb, fun τ c hc => .hard hc h1 h2⟩
    | hard0 => exact .inr fun τ c => .hard0
    | soft hb h1 h2 => exact .inl ⟨_, hb, fun τ c hc => .soft hc h1 h2⟩
    | soft0 hb h1 => exact .inl ⟨_, hb, fun τ c hc => .soft0 hc h1⟩

/-- Operations that make memory. -/
theorem aop_alloc {P : Program} {e : Env} {H H' : Heap} {op : AOp} {v : Value} (hk : op.kind = .alloc) (h : aop P e H op = some (v, H')) :
    ∃ (m : Mk) (x : Blk), v = m.val H.next ∧ H' = H.add x ∧ ∀ G : Heap, aop P e G op = some (m.val G.next, G.add x) := by
  cases op <;> first
    | (cases hk; done)
    | skip
  case alloc z =>
    simp only [aop, Bool.cond_eq_ite] at h ⊢
    split at h
    · rename_i hc; cases h; exact ⟨.ptr, _, rfl, rfl, fun G => by rw [if_pos hc]; rfl⟩
    · cases h
  case box x =>
    simp only [aop, Bool.cond_eq_ite] at h ⊢
    split at h
    · split at h
      · rename_i hc; cases h; exact ⟨.ptr, _, rfl, rfl, fun G => by rw [if_pos hc]; rfl⟩
      · cases h
    · cases h
  case bslice sz len z ps =>
    simp only [aop, Bool.cond_eq_ite] at h ⊢
    split at h
    · rename_i hc
      split at h
      · split at h
        · rename_i cs hcs
          split at h
          · rename_i hone
            cases h
            exact ⟨.slice len len, _, rfl, rfl, fun G => by rw [if_pos hc, if_pos hone]; rfl⟩
          · cases h
        · cases h
      · cases h
    · cases h
  case mkmap r =>
    simp only [aop] at h ⊢
    split at h
    · cases h; exact ⟨.map, _, rfl, rfl, fun G => rfl⟩
    · cases h; exact ⟨.map, _, rfl, rfl, fun G => rfl⟩
    · cases h
  case mkslice sz by_ z l c =>
    simp only [aop, Bool.cond_eq_ite] at h ⊢
    split at h
    · rename_i ln cn hl hc
      split at h
      · rename_i hk2
        cases h
        exact ⟨.slice ln cn, _, rfl, rfl, fun G => by rw [if_pos hk2]; rfl⟩
      · cases h
    · cases h
  case cvsb x =>
    simp only [aop] at h ⊢
    split at h
    · rename_i s hx; cases h; exact ⟨.slice s.size SOFT, _, rfl, rfl, fun G => rfl⟩
    · cases h

end Go.Abs
