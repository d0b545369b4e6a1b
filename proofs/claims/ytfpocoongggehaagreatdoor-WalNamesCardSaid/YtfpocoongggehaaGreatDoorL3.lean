/- Hooks for the library's functions. -/
import Derived.Test.YtfpocoongggehaaGreatDoorA37
import Derived.Test.YtfpocoongggehaaGreatDoorK1
import Derived.Test.YtfpocoongggehaaGreatDoorL2
set_option linter.all false
namespace Go.Abs
open Go

/-! ### What they come to -/

def hkFormat (args : List Value) (H : Heap) : Option (Value × Heap) := match args with
  | [.int .u64 (.ofNat u), .int .i64 (.ofNat 10)] => bif Nat.blt u 18446744073709551616 then some (str (Plain.natL u), H) else none
  | _ => none

def hkParse (T : TypeId) (args : List Value) (H : Heap) : Option (Value × Heap) := match args with
  | [.string s, .int .i64 (.ofNat 10), .int .i64 (.ofNat 64)] => bif Nat.ble s.data.toList.length 281474976710656 then (match Lib.parseUintB 64 s.data.toList with
    | .ok u => some (.tuple ⟨[.int .u64 (u : Nat), .nilIface]⟩, H)
    | .range => some (.tuple ⟨[.int .u64 18446744073709551615, .iface T (.pointer (some ⟨H.next, 0, none⟩))]⟩, { H with next := H.next + 1 })
    | _ => some (.tuple ⟨[.int .u64 0, .iface T (.pointer (some ⟨H.next, 0, none⟩))]⟩, { H with next := H.next + 1 })) else none
  | _ => none

def hkRepeat (args : List Value) (H : Heap) : Option (Value × Heap) := match args with
  | [.string s, .int .i64 (.ofNat c)] => bif Nat.ble (s.data.toList.length * c) 140737488355328 && Nat.ble c 9223372036854775807 then some (str (Lib.repeatL s.data.toList c), H) else none
  | _ => none

def strsL : List Value → Option (List (List UInt8))
  | [] => some []
  | .string s :: r => (match strsL r with
    | some l => some (s.data.toList :: l)
    | none => none)
  | _ :: _ => none

def strsOf (H : Heap) : Value → Option (List (List UInt8))
  | .slice _ 0 _ => some []
  | .slice (some ⟨b, o, none⟩) n _ => (match cellsAt H b o n with
    | some vs => strsL vs
    | none => none)
  | _ => none

def hkJoin (args : List Value) (H : Heap) : Option (Value × Heap) := match args with
  | [v, .string s] => (match s.data.toList, strsOf H v with
    | [], some l => bif Nat.ble l.length 140737488355328 && Nat.ble l.flatten.length 140737488355328 then some (str l.flatten, H) else none
    | _, _ => none)
  | _ => none

def keysL : List (Value × Value) → Option (List (List UInt8))
  | [] => some []
  | (.string s, _) :: r => (match keysL r with
    | some l => some (s.data.toList :: l)
    | none => none)
  | _ :: _ => none

def inL (x : List UInt8) : List (List UInt8) → Bool
  | [] => false
  | y :: r => x == y || inL x r
def nodupL : List (List UInt8) → Bool
  | [] => true
  | x :: r => !(inL x r) && nodupL r

def sortedOf (ks : List (List UInt8)) (H : Heap) : Option (Value × Heap) :=
  match ks with
  | [] => some (.slice none 0 0, H)
  | ks => bif nodupL ks && ks.all (fun k => Nat.ble k.length 140737488355328) && Nat.ble (ks.length * 16) 140737488355328 then
      some (.slice (some ⟨H.next, 0, none⟩) ks.length SOFT, H.add (.row ((Plain.sortL ks).map fun l => str l) 1 false)) else none

def hkSorted (it : Nat) (args : List Value) (H : Heap) : Option (Value × Heap) := match args with
  | [.func (.func f) ⟨[]⟩ ⟨[.pointer (some ⟨b, 0, none⟩)]⟩] => bif Nat.beq f it then (match H.get b with
    | some (.row (.map m :: _) 0 _) => (match m with
      | none => some (.slice none 0 0, H)
      | some m => (match H.get m with
        | some (.mp es) => (match keysL es with
          | some ks => sortedOf ks H
          | none => none)
        | _ => none))
    | _ => none) else none
  | _ => none

theorem inL_iff (x : List UInt8) : ∀ l, inL x l = true ↔ x ∈ l := by
  intro l
  induction l with
  | nil => simp [inL]
  | cons y r ih => simp [inL, ih]
theorem nodupL_iff : ∀ l, nodupL l = true ↔ l.Nodup := by
  intro l
  induction l with
  | nil => simp [nodupL]
  | cons x r ih =>
    simp only [nodupL, Bool.and_eq_true, Bool.not_eq_true', List.nodup_cons, ih]
    have := inL_iff x r
    cases h : inL x r <;> simp_all

theorem strsL_eq : ∀ {vs : List Value} {l : List (List UInt8)}, strsL vs = some l → vs = l.map fun x => str x := by
  intro vs
  induction vs with
  | nil => intro l h; cases h; rfl
  | cons v r ih =>
    intro l h
    cases v with
    | string s =>
      simp only [strsL] at h
      split at h
      · rename_i m hm
        cases h
        rw [ih hm]
        cases s with | mk d => cases d; rfl
      · cases h
    | _ => cases h
theorem keysL_eq : ∀ {es : List (Value × Value)} {l : List (List UInt8)}, keysL es = some l → es.map (·.1) = l.map fun x => str x := by
  intro es
  induction es with
  | nil => intro l h; cases h; rfl
  | cons p r ih =>
    intro l h
    obtain ⟨k, v⟩ := p
    cases k with
    | string s =>
      simp only [keysL] at h
      split at h
      · rename_i m hm
        cases h
        rw [List.map_cons, ih hm]
        cases s with | mk d => cases d; rfl
      · cases h
    | _ => cases h

end Go.Abs

namespace Go.Proofs.YtfpocoongggehaaGreatDoor
open Go Go.Abs Go.RowKit

section
variable [Fixed]

/-- What the library's variables hold. -/
structure Laid0 : Prop where
  tab : Lib.TabIs Tryz.prog Fixed.w0 "internal/strconv.uint64pow10" .u64 Lib.pow10Tab
  st : ∀ g, Tryz.prog.globalNamed "internal/strconv.uint64pow10" = some g → Fixed.stay g
structure Laid1 : Prop extends Laid0 where
  syn : ∃ tp p, Fixed.w0.var? Tryz.prog "strconv.ErrSyntax" = some #[.iface tp p]
  sts : ∀ g, Tryz.prog.globalNamed "strconv.ErrSyntax" = some g → Fixed.stay g
  rng : ∃ tp p, Fixed.w0.var? Tryz.prog "strconv.ErrRange" = some #[.iface tp p]
  str : ∀ g, Tryz.prog.globalNamed "strconv.ErrRange" = some g → Fixed.stay g

theorem var_fix {σ : Map} {H : Heap} {w : World} (hR : R σ H w) {name : String} (hs : ∀ g, Tryz.prog.globalNamed name = some g → Fixed.stay g) : w.var? Tryz.prog name = Fixed.w0.var? Tryz.prog name := by
  unfold World.var?
  cases hg : Tryz.prog.globalNamed name with
  | none => rfl
  | some g =>
    simp only [Option.bind_some, (hR.fix g (hs g hg)).1]

omit [Fixed] in
theorem baL (l : List (List UInt8)) : (l.map fun y => (⟨⟨y⟩⟩ : ByteArray)).map (·.data.toList) = l := by
  induction l with
  | nil => rfl
  | cons x r ih => simp only [List.map_cons, ih]

theorem LRel.cons_inv {σ : Map} {v : Value} {r l' : List Value} (h : LRel σ (v :: r) l') : ∃ v' r', l' = v' :: r' ∧ VRel σ v v' ∧ LRel σ r r' := by
  cases l' with
  | nil => exact absurd h.1 (by simp)
  | cons v' r' => exact ⟨v', r', rfl, h.head, h.tail⟩
theorem LRel.nil_inv {σ : Map} {l' : List Value} (h : LRel σ [] l') : l' = [] := by
  cases l' with
  | nil => rfl
  | cons v' r' => exact absurd h.1 (by simp)

theorem clo_eq {σ : Map} {args args' : List Value} {k : Nat} (h : LRel σ args args') (hc : args.all (clo k) = true) : args' = args :=
  (List.ext_getElem h.1 fun i p q => (h.2 i p q).eq_of_clo (List.all_eq_true.1 hc _ (List.getElem_mem p))).symm

theorem ok_format (hL : Laid0) {args : List Value} {H H' : Heap} {r : Value} (h : hkFormat args H = some (r, H')) {σ : Map} {w : World} {args' : List Value} (hR : R σ H w) (ha : LRel σ args args') :
    CallOk Tryz.prog 126 args' σ H w r H' := by
  unfold hkFormat at h
  split at h
  · rename_i u
    cases hb : Nat.blt u 18446744073709551616 with
    | false => rw [hb] at h; cases h
    | true =>
      rw [hb] at h
      cases h
      have hu : u < 18446744073709551616 := Nat.le_of_ble_eq_true hb
      rw [clo_eq (k := 1) ha rfl]
      refine CallOk.quiet (k := 1) hR rfl ?_
      have htab : Lib.TabIs Tryz.prog w "internal/strconv.uint64pow10" .u64 Lib.pow10Tab := by
        unfold Lib.TabIs; rw [var_fix hR hL.st]; exact hL.tab
      refine (formatUint u hu w htab).mono fun e w' hh => ⟨?_, hh.2⟩
      rw [hh.1, ← Plain.natL_eq hu]
  · cases h

theorem ok_repeat {args : List Value} {H H' : Heap} {r : Value} (h : hkRepeat args H = some (r, H')) {σ : Map} {w : World} {args' : List Value} (hR : R σ H w) (ha : LRel σ args args') :
    CallOk Tryz.prog 81 args' σ H w r H' := by
  unfold hkRepeat at h
  split at h
  · rename_i s c
    cases hb : (Nat.ble (s.data.toList.length * c) 140737488355328 && Nat.ble c 9223372036854775807) with
    | false => rw [hb] at h; cases h
    | true =>
      rw [hb] at h
      cases h
      rw [Bool.and_eq_true] at hb
      have h1 := Nat.le_of_ble_eq_true hb.1
      have h2 := Nat.le_of_ble_eq_true hb.2
      rw [clo_eq (k := 1) ha rfl]
      exact CallOk.quiet (k := 1) hR rfl (Tryz.strings_Repeat s c w h2 h1)
  · cases h

theorem ok_join {args : List Value} {H H' : Heap} {r : Value} (h : hkJoin args H = some (r, H')) {σ : Map} {w : World} {args' : List Value} (hR : R σ H w) (ha : LRel σ args args') :
    CallOk Tryz.prog 84 args' σ H w r H' := by
  unfold hkJoin at h
  split at h
  · rename_i v s
    split at h
    · rename_i l hs hl
      cases hb : (Nat.ble l.length 140737488355328 && Nat.ble l.flatten.length 140737488355328) with
      | false => rw [hb] at h; cases h
      | true =>
        rw [hb] at h
        cases h
        rw [Bool.and_eq_true] at hb
        have h1 := Nat.le_of_ble_eq_true hb.1
        have h2 := Nat.le_of_ble_eq_true hb.2
        obtain ⟨v', r', rfl, hv, hr⟩ := LRel.cons_inv ha
        have er := clo_eq (k := 1) hr rfl
        subst er
        unfold strsOf at hl
        split at hl
        · cases hl
          refine CallOk.quiet (k := 1) hR rfl ?_
          cases hv with
          | snil => exact (Tryz.strings_Join_none _ _ _ w).mono fun e w' hh => ⟨hh.1, by rw [hh.2]; exact RowKit.Below.refl _ _⟩
          | hard _ _ _ => exact (Tryz.strings_Join_none _ _ _ w).mono fun e w' hh => ⟨hh.1, by rw [hh.2]; exact RowKit.Below.refl _ _⟩
          | hard0 => exact (Tryz.strings_Join_none _ _ _ w).mono fun e w' hh => ⟨hh.1, by rw [hh.2]; exact RowKit.Below.refl _ _⟩
          | soft _ _ _ => exact (Tryz.strings_Join_none _ _ _ w).mono fun e w' hh => ⟨hh.1, by rw [hh.2]; exact RowKit.Below.refl _ _⟩
          | soft0 _ _ => exact (Tryz.strings_Join_none _ _ _ w).mono fun e w' hh => ⟨hh.1, by rw [hh.2]; exact RowKit.Below.refl _ _⟩
        · rename_i b o n c hn
          split at hl
          · rename_i vs hvs
            have hvl := strsL_eq hl
            have hlen : l.length = n := by
              unfold cellsAt at hvs
              split at hvs
              · rename_i cs sz ro hg
                cases hle : Nat.ble (o + n) cs.length with
                | false => rw [hle] at hvs; cases hvs
                | true =>
                  rw [hle] at hvs
                  cases hvs
                  have := congrArg List.length hvl
                  have hle := Nat.le_of_ble_eq_true hle
                  simp at this; omega
              · cases hvs
            refine CallOk.quiet (k := 1) hR rfl ?_
            have key : ∀ (lc : Abs.Loc) (cap : Nat), σ b = some lc → n ≤ cap → Calls Tryz.prog 84 #[.slice (some ⟨lc.c, lc.δ + o, none⟩) n cap, .string s] w fun e w' => e = .returned (str l.flatten) ∧ RowKit.Below w.heap.size w w' := by
              intro lc cap hσ hcap
              have hcell : ∀ (j : Nat) (x : ByteArray), (l.map fun y => (⟨⟨y⟩⟩ : ByteArray))[j]? = some x → w.cell? ⟨lc.c, lc.δ + o + j, none⟩ = some (.string x) := by
                intro j x hx
                unfold cellsAt at hvs
                split at hvs
                · rename_i cs sz ro hg
                  cases hle : Nat.ble (o + n) cs.length with
                  | false => rw [hle] at hvs; cases hvs
                  | true =>
                    rw [hle] at hvs
                    simp only [cond_true, Option.some.injEq] at hvs
                    have hle := Nat.le_of_ble_eq_true hle
                    obtain ⟨C, et, fz, g1, g2, g3, g4, g5, _⟩ := hR.live b lc _ hσ hg
                    have hj : j < l.length := by
                      have := (List.getElem?_eq_some_iff.1 hx).1
                      simpa using this
                    have e1 : cs[o + j]? = some (.string x) := by
                      have e2 : vs[j]? = some (.string x) := by
                        rw [hvl]
                        simp only [List.getElem?_map] at hx ⊢
                        cases hlj : l[j]? with
                        | none => rw [hlj] at hx; cases hx
                        | some y => rw [hlj] at hx; cases hx; rfl
                      rw [← hvs, List.getElem?_take, if_pos (by omega), List.getElem?_drop] at e2
                      exact e2
                    obtain ⟨v2, k1, k2⟩ := g5.get? e1
                    rw [List.getElem?_take, if_pos (by omega), List.getElem?_drop] at k1
                    have k3 := k2.eq_of_clo (n := 1) rfl
                    subst k3
                    unfold World.cell?
                    rw [g1]
                    simp only [Option.isSome_none, Bool.false_eq_true, if_false]
                    rw [← Array.getElem?_toList, show lc.δ + o + j = lc.δ + (o + j) by omega]; exact k1
                · cases hvs
              have hj := Tryz.strings_Join lc.c (lc.δ + o) cap (l.map fun y => (⟨⟨y⟩⟩ : ByteArray)) s w hcell (hR.inb b lc hσ) (by simpa using h1) (by simpa [hlen] using hcap) (by
                have := baL l
                rw [this, hs]
                have hf : Lib.join l [] = l.flatten := by
                  cases l with
                  | nil => rfl
                  | cons x r => rw [Lib.join_cons]; simp [Lib.joinTail]
                rw [hf]; exact h2)
              rw [List.length_map, hlen] at hj
              refine hj.mono fun e w' hh => ⟨?_, hh.2⟩
              rw [hh.1]
              have := baL l
              rw [this, hs]
              have hf : Lib.join l [] = l.flatten := by
                cases l with
                | nil => rfl
                | cons x r => rw [Lib.join_cons]; simp [Lib.joinTail]
              rw [hf]
            cases hv with
            | hard hσ _ hle => exact key _ _ hσ hle
            | hard0 => exact (hn rfl).elim
            | soft hσ hle _ => exact key _ _ hσ hle
            | soft0 _ _ => exact (hn rfl).elim
          · cases hl
        · cases hl
    · cases h
  · cases h

theorem ok_parse (hL : Laid1) {args : List Value} {H H' : Heap} {r : Value} (h : hkParse 231 args H = some (r, H')) {σ : Map} {w : World} {args' : List Value} (hR : R σ H w) (ha : LRel σ args args') :
    CallOk Tryz.prog 78 args' σ H w r H' := by
  unfold hkParse at h
  split at h
  · rename_i s
    cases hb : Nat.ble s.data.toList.length 281474976710656 with
    | false => rw [hb] at h; cases h
    | true =>
      rw [hb] at h
      simp only [cond_true] at h
      have hlim : s.size ≤ 281474976710656 := Nat.le_of_ble_eq_true hb
      rw [clo_eq (k := 1) ha rfl]
      split at h
      · rename_i u hu
        cases h
        refine CallOk.quiet (k := 2) hR rfl ?_
        refine (Tryz.strconv_ParseUint_10_at64_ok s (by omega) u hu w).mono fun e w' hh => ⟨hh.1, ?_⟩
        rcases hh.2 with h1 | h1
        · rw [h1]; exact RowKit.Below.refl _ _
        · rw [h1]; exact Lib.bytesWorld_below _ _ _
      · rename_i hu
        cases h
        obtain ⟨tp, p, hv⟩ := hL.rng
        refine CallOk.dead (r' := fun N => .tuple #[.int .u64 18446744073709551615, .iface 231 (.pointer (some ⟨N, 0, none⟩))]) hR (fun N => ?_) ?_
        · exact VRel.tuple' (LRel.cons (.int _ _) (LRel.cons (.iface (by
            have := VRel.ptr (σ := σ.put H.next ⟨N, 0, 0, 0⟩) (b := H.next) (o := 0) (Map.put_same σ H.next _)
            simpa using this)) (LRel.nil _)))
        · refine (Tryz.strconv_ParseUint_10_at64_range_var s hlim hu tp p w (by rw [var_fix hR hL.str]; exact hv)).mono fun e w' hh => ?_
          obtain ⟨N, h1, h2, h3, h4⟩ := hh
          exact ⟨N, h1, h2, (Array.getElem?_eq_some_iff.1 h3).1, h4⟩
      · rename_i h1 h2
        cases h
        obtain ⟨tp, p, hv⟩ := hL.syn
        refine CallOk.dead (r' := fun N => .tuple #[.int .u64 0, .iface 231 (.pointer (some ⟨N, 0, none⟩))]) hR (fun N => ?_) ?_
        · exact VRel.tuple' (LRel.cons (.int _ _) (LRel.cons (.iface (by
            have := VRel.ptr (σ := σ.put H.next ⟨N, 0, 0, 0⟩) (b := H.next) (o := 0) (Map.put_same σ H.next _)
            simpa using this)) (LRel.nil _)))
        · refine (show Calls Tryz.prog 78 #[.string s, .int .i64 10, .int .i64 64] w fun e w' => ∃ N, e = .returned (.tuple #[.int .u64 0, .iface 231 (.pointer (some ⟨N, 0, none⟩))]) ∧ w.heap.size ≤ N ∧ w'.heap[N]? = some (.cells #[.string ⟨#[80, 97, 114, 115, 101, 85, 105, 110, 116]⟩, .string s, .iface tp p] 267 (0, 0)) ∧ RowKit.Below w.heap.size w w' from Any.strconv_ParseUint_10_at64_syntax_var Tryz.laysPu14 s hlim (by
            cases hp : Lib.parseUintB 64 s.data.toList <;> first | rfl | exact (h1 _ hp).elim | exact (h2 hp).elim) tp p w (by rw [var_fix hR hL.sts]; exact hv)).mono fun e w' hh => ?_
          obtain ⟨N, h1, h2, h3, h4⟩ := hh
          exact ⟨N, h1, h2, (Array.getElem?_eq_some_iff.1 h3).1, h4⟩
  · cases h

theorem ins_perm {X : Type} (x : Lit × DataW X) : ∀ l : List (Lit × DataW X), (DataW.insert x l).Perm (x :: l) := by
  intro l
  induction l with
  | nil => exact List.Perm.refl _
  | cons y r ih =>
    unfold DataW.insert
    split
    · exact List.Perm.refl _
    · exact (List.Perm.cons y ih).trans (List.Perm.swap x y r)
theorem foldr_perm {X : Type} : ∀ l : List (Lit × DataW X), (l.foldr DataW.insert []).Perm l := by
  intro l
  induction l with
  | nil => exact List.Perm.refl _
  | cons x r ih => exact (ins_perm x _).trans (List.Perm.cons x ih)

theorem ok_sorted {args : List Value} {H H' : Heap} {r : Value} (h : hkSorted 159 args H = some (r, H')) {σ : Map} {w : World} {args' : List Value} (hR : R σ H w) (ha : LRel σ args args') :
    CallOk Tryz.prog 112 args' σ H w r H' := by
  unfold hkSorted at h
  split at h
  · rename_i f b
    cases hf : Nat.beq f 159 with
    | false => rw [hf] at h; cases h
    | true =>
      rw [hf] at h
      have hf := Nat.eq_of_beq_eq_true hf
      subst hf
      simp only [cond_true] at h
      obtain ⟨v', r', rfl, hv, hr⟩ := LRel.cons_inv ha
      obtain rfl := LRel.nil_inv hr
      cases hv with
      | @func _ a a' c c' h1 h2 h3 h4 =>
      have ea : a' = [] := List.eq_nil_of_length_eq_zero (by simpa using h1.symm)
      subst ea
      obtain ⟨cv, cr, rfl, hcv, hcr⟩ := LRel.cons_inv (⟨h3, h4⟩ : LRel σ [_] c')
      obtain rfl := LRel.nil_inv hcr
      cases hcv with
      | @ptr _ _ lc hσ =>
      have hF4 : ∀ {a b c d}, CallsIn Fence.wide 5 a b c w d → Calls a b c w d := fun h => callsIn_wide.1 h
      split at h
      · rename_i m rest ro hg
        obtain ⟨C, et, fz, g1, g2, g3, g4, g5, g6, g7, g8⟩ := hR.live b lc _ hσ hg
        have hδ : lc.δ = 0 := g8 rfl
        have hBm := hR.inb b lc hσ
        obtain ⟨mv, k1, k2⟩ := g5.get? (i := 0) (v := .map m) rfl
        rw [List.getElem?_take, if_pos (by simp), hδ, List.drop_zero] at k1
        have hcell : w.cell? ⟨lc.c, 0, none⟩ = some mv := by
          unfold World.cell?
          rw [g1]
          simp only [Option.isSome_none, Bool.false_eq_true, if_false]
          rw [← Array.getElem?_toList]; exact k1
        have hptr : (Value.pointer (some ⟨lc.c, lc.δ + 0, none⟩)) = .pointer (some ⟨lc.c, 0, none⟩) := by rw [hδ]
        rw [hptr]
        have enter9 := enters_of Tryz.func158 (by kernel_rfl) rfl
        have enterI := enters_of Tryz.func159 (by kernel_rfl) rfl
        -- no key
        have empty : ∀ (X : Type) (S : List (List UInt8) → Prop) (N : Nat), N ≤ maxLen → N * 16 ≤ 140737488355328 → (∀ ss, S ss → ss = []) →
            SeqGives Fence.wide 2 Tryz.prog 159 #[.pointer (some ⟨lc.c, 0, none⟩)] encStr S N w → CallOk Tryz.prog 112 [.func (.func 159) #[] #[.pointer (some ⟨lc.c, 0, none⟩)]] σ H w (.slice none 0 0) H := by
          intro X S N h1 h2 h3 hseq
          refine CallOk.quiet (k := 1) hR rfl ?_
          have := AnyZ.sorted_in Tryz.sorted112 Fence.wide 5 trivial trivial trivial trivial rfl (by omega) (Tryz.sorts112 _) enter9 159 #[.pointer (some ⟨lc.c, 0, none⟩)] trivial enterI S N h1 h2 w hseq
          refine (hF4 this).mono fun e w' hh => ?_
          obtain ⟨v, ss, q1, q2, q3, q4, q5⟩ := hh
          have := h3 ss q2
          have := q4.2 this
          subst this
          exact ⟨q1, q5⟩
        cases m with
        | none =>
          simp only at h
          cases h
          cases k2
          exact empty Unit _ 0 (Nat.zero_le _) (by omega) (fun ss h => h) (AnyZ.keys_gives_nil (ρ := Tryz.keys113_ren) { Tryz.keys113 with } Fence.wide _ trivial rfl lc.c w hBm hcell)
        | some m =>
          simp only at h
          split at h
          · rename_i es hge
            cases k2 with
            | @map _ lm hσm =>
            split at h
            · rename_i ks hks
              obtain ⟨ms, clock, p1, p2, p3, p4, p5⟩ := hR.live m lm _ hσm hge
              have hkeys := keysL_eq hks
              have hlen : ms.toList.length = ks.length := by
                have e1 := congrArg List.length p2
                have e2 := congrArg List.length hkeys
                simp at e1 e2 ⊢; omega
              obtain ⟨RR, hRR⟩ : ∃ RR : Value → Option (DataW Unit × List MemPlace), RR = fun _ => some (.nil, []) := ⟨_, rfl⟩
              -- what the keys read as
              have main : ks.Nodup → (∀ k ∈ ks, k.length ≤ 140737488355328) → ks.length * 16 ≤ 140737488355328 →
                  SeqGives Fence.wide 2 Tryz.prog 159 #[.pointer (some ⟨lc.c, 0, none⟩)] encStr (fun ss => ss.Perm ks) ks.length w := by
                intro n1 n2 n3
                have hmk : ms.toList.map (·.key) = ks.map fun x => str x := p2.trans hkeys
                have hread : ∀ x ∈ ms.toList, ∃ k ∈ ks, x.key = str k ∧ WideElems.rd Tryz.prog 9 RR x = some (.string k, .nil) := by
                  intro x hx
                  have : x.key ∈ ms.toList.map (·.key) := List.mem_map_of_mem hx
                  rw [hmk] at this
                  obtain ⟨k, hk, hke⟩ := List.mem_map.1 this
                  refine ⟨k, hk, hke.symm, ?_⟩
                  have hl := n2 k hk
                  have hmax : maxLen = 9223372036854775807 := by decide
                  have := WideMaps.keyOf_string_mk (P := Tryz.prog) (k := 9) Tryz.underlying9 (s := ⟨⟨k⟩⟩) (by show k.length ≤ maxLen; omega)
                  unfold WideElems.rd
                  rw [← hke, this, hRR]; rfl
                have hfit : WideElems.Fit Tryz.prog 9 RR ms clock := by
                  refine ⟨?_, ⟨fun x hx => p5.1 _ (List.mem_map_of_mem hx), p5.2, ?_⟩, fun x hx => ?_⟩
                  · have hmax : maxLen = 9223372036854775807 := by decide
                    have : ms.size = ks.length := by simpa using hlen
                    omega
                  · rw [hmk]
                    exact List.Pairwise.map _ (fun a b hab hh => hab (by simpa using hh)) n1
                  · obtain ⟨k, _, _, h2⟩ := hread x hx; exact ⟨_, h2⟩
                have hown : w.ownsMap Tryz.prog 9 RR lm.c ms.size (.map ((ms.toList.map (WideElems.rg Tryz.prog 9 RR)).foldr DataW.insert [])) := ⟨ms, clock, p1, hfit, Nat.le_refl _, rfl⟩
                have hstr : (Go.strKeys (.map ((ms.toList.map (WideElems.rg Tryz.prog 9 RR)).foldr DataW.insert []) : DataW Unit)).Perm ks := by
                  have e1 : ((ms.toList.map (WideElems.rg Tryz.prog 9 RR)).foldr DataW.insert []).Perm (ms.toList.map (WideElems.rg Tryz.prog 9 RR)) := foldr_perm _
                  have e2 := e1.map (fun p => Go.strOf p.1)
                  refine e2.trans ?_
                  have e3 : (ms.toList.map (WideElems.rg Tryz.prog 9 RR)).map (fun p => Go.strOf p.1) = ks := by
                    have e4 : ∀ x ∈ ms.toList, (Go.strOf (WideElems.rg Tryz.prog 9 RR x).1) = (match x.key with | .string s => s.data.toList | _ => []) := by
                      intro x hx
                      obtain ⟨k, _, h1, h2⟩ := hread x hx
                      unfold WideElems.rg
                      rw [h2, h1]; rfl
                    rw [List.map_map]
                    have e5 : ms.toList.map ((fun p => Go.strOf p.1) ∘ WideElems.rg Tryz.prog 9 RR) = (ms.toList.map (·.key)).map (fun v => match v with | .string s => s.data.toList | _ => []) := by
                      rw [List.map_map]
                      refine List.map_congr_left fun x hx => ?_
                      simp only [Function.comp]
                      rw [e4 x hx]
                    have e6 : ∀ l : List (List UInt8), (l.map fun x => str x).map (fun v => match v with | .string s => s.data.toList | _ => []) = l := by
                      intro l
                      induction l with
                      | nil => rfl
                      | cons x r ih => rw [List.map_cons, List.map_cons, ih]
                    rw [e5, hmk, e6]
                  rw [e3]
                have hsize : Maps.size (.map ((ms.toList.map (WideElems.rg Tryz.prog 9 RR)).foldr DataW.insert []) : DataW Unit) = ks.length := by
                  have := hstr.length_eq
                  simpa [Go.strKeys, Maps.size] using this
                have := AnyZ.keys_gives (ρ := Tryz.keys113_ren) { Tryz.keys113 with } Fence.wide 2 trivial rfl (by omega) lc.c lm.c ms.size _ w hBm hcell hown
                rw [hsize] at this
                exact fun l J W a b c d => (this l J W a b c d).mono fun e W' hh => (by obtain ⟨h1, xs, hx, hj⟩ := hh; exact ⟨h1, xs, hx.trans hstr, hj⟩)
              unfold sortedOf at h
              split at h
              · cases h
                refine empty Unit _ 0 (Nat.zero_le _) (by omega) (fun ss h => List.Perm.eq_nil h) (main (by simp) (by simp) (by simp))
              · rename_i hne
                cases hb : (nodupL ks && ks.all (fun k => Nat.ble k.length 140737488355328) && Nat.ble (ks.length * 16) 140737488355328) with
                | false => rw [hb] at h; cases h
                | true =>
                  rw [hb] at h
                  cases h
                  rw [Bool.and_eq_true, Bool.and_eq_true] at hb
                  have n1 := (nodupL_iff ks).1 hb.1.1
                  have n2 : ∀ k ∈ ks, k.length ≤ 140737488355328 := fun k hk => Nat.le_of_ble_eq_true (List.all_eq_true.1 hb.1.2 k hk)
                  have n3 := Nat.le_of_ble_eq_true hb.2
                  have hmax : maxLen = 9223372036854775807 := by decide
                  refine CallOk.row1 (k := 1) hR ?_ ?_ ?_ ?_
                  · rw [List.length_map, (Plain.sortL_perm ks).length_eq, Nat.mul_one]
                  · rw [List.all_map]; exact List.all_eq_true.2 fun _ _ => rfl
                  · rw [List.all_map]; exact List.all_eq_true.2 fun _ _ => rfl
                  · have := AnyZ.sorted_in Tryz.sorted112 Fence.wide 5 trivial trivial trivial trivial rfl (by omega) (Tryz.sorts112 _) enter9 159 #[.pointer (some ⟨lc.c, 0, none⟩)] trivial enterI _ ks.length (by omega) n3 w (main n1 n2 n3)
                    refine (hF4 this).mono fun e w' hh => ?_
                    obtain ⟨v, ss, q1, q2, q3, q4, q5⟩ := hh
                    rw [Plain.sortL_eq q2] at q3
                    have hls := q2.length_eq
                    rcases q3.2 with ⟨z1, z2⟩ | ⟨g, cap, cur, z1, z2, z3, z4, z5, z6, z7⟩
                    · exfalso
                      rw [hls] at z2
                      exact hne (List.eq_nil_of_length_eq_zero z2)
                    · refine ⟨g, cap, cur, _, ?_, z2, z3, ?_, z6, ?_, q5⟩
                      · rw [q1, z1, hls]
                      · rw [← hls]; exact z4
                      · rw [← hls]; exact z7
            · cases h
          · cases h
      · cases h
  · cases h

end
end Go.Proofs.YtfpocoongggehaaGreatDoor
