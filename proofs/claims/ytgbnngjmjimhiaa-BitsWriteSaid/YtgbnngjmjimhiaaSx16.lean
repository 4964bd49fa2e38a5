/-
  The engine, part 16: a call by its contract: the contract's names are the caller's by a renaming.
-/
import Derived.Test.YtgbnngjmjimhiaaSx15
namespace Go.Sx
open Go

/-! ### Renaming -/
/-- Where a contract's name lies in the caller: a name, and the place there of its first cell. -/
def rn (ρ : List (Nat × Ix)) (n0 : Nat) (i : Nat) : Nat × Ix :=
  match ρ[i]? with
  | some e => e
  | none => (n0 + (i - ρ.length), .z)
def rIx (o ix : Ix) : Ix :=
  match o with
  | .z => ix
  | .n o => match ix with
    | .z => .n o
    | .n i => .n (o + i)
mutual
def ren (ρ : List (Nat × Ix)) (n0 : Nat) : SV → SV
  | .ptr b i sz j => .ptr (rn ρ n0 b).1 (rIx (rn ρ n0 b).2 i) sz j
  | .slice b i sz len cap => .slice (rn ρ n0 b).1 (rIx (rn ρ n0 b).2 i) sz len cap
  | .yield l => .yield (rn ρ n0 l).1
  | .fn f cs => .fn f (renL ρ n0 cs)
  | .iface t v => .iface t (ren ρ n0 v)
  | .agg cs => .agg (renL ρ n0 cs)
  | .tup cs => .tup (renL ρ n0 cs)
  | v => v
def renL (ρ : List (Nat × Ix)) (n0 : Nat) : List SV → List SV
  | [] => []
  | v :: l => ren ρ n0 v :: renL ρ n0 l
end
def isZ (o : Ix) : Bool :=
  match o with
  | .z => true
  | .n _ => false
def is1 (n : Nat) : Bool := n == 1
mutual
/-- A name that begins within a block of the caller is one of cells. -/
def okV (ρ : List (Nat × Ix)) (n0 : Nat) : SV → Bool
  | .ptr b _ sz _ => isZ (rn ρ n0 b).2 || is1 sz
  | .slice b _ sz _ _ => isZ (rn ρ n0 b).2 || is1 sz
  | .yield _ => true
  | .fn _ cs => okL ρ n0 cs
  | .iface _ v => okV ρ n0 v
  | .agg cs => okL ρ n0 cs
  | .tup cs => okL ρ n0 cs
  | _ => true
def okL (ρ : List (Nat × Ix)) (n0 : Nat) : List SV → Bool
  | [] => true
  | v :: l => if okV ρ n0 v then okL ρ n0 l else false
end
def renB (ρ : List (Nat × Ix)) (n0 : Nat) : SB → SB
  | .one t row => .one t (renL ρ n0 row)
  | .arr t sz len f => .arr t sz len (fun i => renL ρ n0 (f i))
  | .roA sz len f => .roA sz len (fun i => renL ρ n0 (f i))
  | .loop s p t ps a b => .loop s p (renL ρ n0 t) ps a b
  | B => B
def okB (ρ : List (Nat × Ix)) (n0 : Nat) (B : SB) (K : Prop) : Prop :=
  match B with
  | .one _ row => if okL ρ n0 row then K else False
  | .arr _ _ _ f => (∀ i, okL ρ n0 (f i) = true) ∧ K
  | .roA _ _ f => (∀ i, okL ρ n0 (f i) = true) ∧ K
  | .loop _ _ t _ _ _ => if okL ρ n0 t then K else False
  | _ => K
/-! ### Numbers of the program's text are numbers -/
mutual
def gen : SV → SV
  | .lit k n => .int k n
  | .fn f cs => .fn f (genL cs)
  | .iface t v => .iface t (gen v)
  | .agg cs => .agg (genL cs)
  | .tup cs => .tup (genL cs)
  | v => v
def genL : List SV → List SV
  | [] => []
  | v :: l => gen v :: genL l
end
def genB : SB → SB
  | .one t row => .one t (genL row)
  | .loop s p t ps a b => .loop s p (genL t) ps a b
  | B => B
/-- So many numbers of l', from a place on. -/
structure View (o : Nat) (l l' : List Int) : Prop where
  out : o + l.length ≤ l'.length ∧ ∀ i, i < l.length → l.getD i 0 = l'.getD (o + i) 0
/-- What a contract asks of a block, met by a block of the caller. -/
def fit (ρ : List (Nat × Ix)) (n0 : Nat) (o : Ix) (B C : SB) : Prop :=
  match B with
  | .ro k l => match C with
    | .ro k' l' => k = k' ∧ View (ixN o) l l'
    | .ints _ k' l' => k = k' ∧ View (ixN o) l l'
    | .buf _ k' l' _ => k = k' ∧ View (ixN o) l l'
    | _ => False
  | .roA sz len f => C = .roA sz len (fun i => renL ρ n0 (f i)) ∧ isZ o = true
  | .free => False
  | B => genB C = genB (renB ρ n0 B) ∧ isZ o = true
def fits (ρ : List (Nat × Ix)) (n0 : Nat) (h : List SB) : List (Nat × Ix) → List SB → Prop → Prop
  | [], [], K => K
  | (b, o) :: es, B :: H, K => (match h[b]? with
    | some C => fit ρ n0 o B C
    | none => False) ∧ okB ρ n0 B (fits ρ n0 h es H K)
  | _, _, _ => False
/-- A block of the callee's own is no other's. -/
def apart1 (b : Nat) (o : Bool) : List (Nat × Ix) → List SB → Bool
  | (b', _) :: es, B :: H => if o || own B then (if b == b' then false else apart1 b o es H) else apart1 b o es H
  | _, _ => true
def apartR : List (Nat × Ix) → List SB → Bool
  | (b, _) :: es, B :: H => if apart1 b (own B) es H then apartR es H else false
  | _, _ => true
/-- The call is as the contract has it. -/
def Meets (s : SS) (ρ : List (Nat × Ix)) (cargs args : List SV) (H : List SB) : Prop :=
  genL args = genL (renL ρ s.h.length cargs) ∧ okL ρ s.h.length cargs = true ∧ apartR ρ H = true ∧ scS s (fits ρ s.h.length s.h ρ H True)

/-! ### Behind the call -/
def mset (ρ : List (Nat × Ix)) (n0 : Nat) : List (Nat × Ix) → List SB → List SB → List SB
  | (b, _) :: es, B :: H, h => mset ρ n0 es H (if own B then h.set b (renB ρ n0 B) else h)
  | [], H, h => h ++ H.map (renB ρ n0)
  | _, [], h => h
/-- Which blocks are whose is as it was; what is new is owned. -/
def ownAs : List SB → List SB → Bool
  | B :: H, B' :: H' => if own B == own B' then ownAs H H' else false
  | [], B' :: H' => if own B' then ownAs [] H' else false
  | [], [] => true
  | _ :: _, [] => false
def redOwn (H : List SB) : List Nat → Bool
  | [] => true
  | i :: R => match H[i]? with
    | some B => if own B then redOwn H R else false
    | none => redOwn H R
def okH (ρ : List (Nat × Ix)) (n0 : Nat) : List SB → Prop → Prop
  | [], K => K
  | B :: H, K => okB ρ n0 B (okH ρ n0 H K)
def rR (ρ : List (Nat × Ix)) (n0 : Nat) (R : List Nat) : List Nat := R.map fun i => (rn ρ n0 i).1
/-- The caller's names among those that went over. -/
def rOld (n : Nat) : List Nat → List Nat
  | [] => []
  | i :: R => if ltB i n then i :: rOld n R else rOld n R
def mrg (ρ : List (Nat × Ix)) (H' : List SB) (R : List Nat) (js : Nat → Nat → Value) (s : SS) : SS :=
  { s with t := scrL R (js 0) 0 s.t, h := mset ρ s.h.length ρ H' (scrH R js 0 s.h), r := addAll R s.r }
def Behind (ρ : List (Nat × Ix)) (H H' : List SB) (R : List Nat) (js : Nat → Nat → Value) (v : SV) (s : SS) (K : SV → SS → Prop) : Prop :=
  if ownAs H H' && redOwn H R && okV ρ s.h.length v then
    okH ρ s.h.length H' (menH (rR ρ s.h.length (rOld ρ.length R)) s.h (keepD (rR ρ s.h.length (rOld ρ.length R)) (mrg ρ H' (rR ρ s.h.length (rOld ρ.length R)) js s).h s.d
      (keepR (rR ρ s.h.length (rOld ρ.length R)) (mrg ρ H' (rR ρ s.h.length (rOld ρ.length R)) js s).h s.rd
        (K (ren ρ s.h.length v) (mrg ρ H' (rR ρ s.h.length (rOld ρ.length R)) js s)))))
  else False
mutual
theorem den_gen (σ : Names) : ∀ (v : SV), den σ (gen v) = den σ v
  | .undef => rfl
  | .val _ => rfl
  | .bool _ => rfl
  | .lit _ _ => rfl
  | .int _ _ => rfl
  | .str _ => rfl
  | .ptr _ _ _ _ => rfl
  | .slice _ _ _ _ _ => rfl
  | .yield _ => rfl
  | .fn f cs => by simp only [gen, den, den_genL σ cs]
  | .iface t v => by simp only [gen, den, den_gen σ v]
  | .agg cs => by simp only [gen, den, den_genL σ cs]
  | .tup cs => by simp only [gen, den, den_genL σ cs]
theorem den_genL (σ : Names) : ∀ (l : List SV), denL σ (genL l) = denL σ l
  | [] => rfl
  | v :: l => by simp only [genL, denL, den_gen σ v, den_genL σ l]
end
theorem own_genB (B : SB) : own (genB B) = own B := by cases B <;> rfl
theorem isLoop_genB (B : SB) : isLoop (genB B) = isLoop B := by cases B <;> rfl
section
variable {P : Program}
theorem holds_gen {σ : Names} {p : Option (Nat × Nat)} {w : World} {B : SB} : holds P σ p w (genB B) ↔ holds P σ p w B := by
  cases B <;> simp only [genB, holds, den_genL]

/-- The contract's view of the names. -/
def cut (ρ : List (Nat × Ix)) (n0 : Nat) (σ : Names) : Names := fun i => (σ (rn ρ n0 i).1).map fun p => (p.1, p.2 + ixN (rn ρ n0 i).2)
theorem ixN_rIx (o ix : Ix) : ixN (rIx o ix) = ixN o + ixN ix := by cases o <;> cases ix <;> simp [rIx, ixN]
theorem ixN_isZ {o : Ix} (h : isZ o = true) : ixN o = 0 := by cases o <;> simp [isZ, ixN] at *
theorem rIx_isZ {o ix : Ix} (h : isZ o = true) : rIx o ix = ix := by cases o <;> simp [isZ, rIx] at *
mutual
theorem den_ren (ρ : List (Nat × Ix)) (n0 : Nat) (σ σc : Names) (h : ∀ i, σc i = cut ρ n0 σ i) : ∀ (v : SV), okV ρ n0 v = true → den σ (ren ρ n0 v) = den σc v
  | .undef, _ => rfl
  | .val _, _ => rfl
  | .bool _, _ => rfl
  | .lit _ _, _ => rfl
  | .int _ _, _ => rfl
  | .str _, _ => rfl
  | .ptr b i sz j, hv => by
    simp only [ren, den, h, cut, Option.map_map]
    simp only [okV, Bool.or_eq_true] at hv
    congr 2
    funext p
    simp only [Function.comp]
    rcases hv with hv | hv
    · rw [rIx_isZ hv, ixN_isZ hv]; simp
    · have : sz = 1 := by simpa [is1] using hv
      subst this
      rw [ixN_rIx]; simp; omega
  | .slice b i sz len cap, hv => by
    simp only [ren, den, h, cut, Option.map_map]
    simp only [okV, Bool.or_eq_true] at hv
    congr 2
    funext p
    simp only [Function.comp]
    rcases hv with hv | hv
    · rw [rIx_isZ hv, ixN_isZ hv]; simp
    · have : sz = 1 := by simpa [is1] using hv
      subst this
      rw [ixN_rIx]; simp; omega
  | .fn f cs, hv => by simp only [ren, den, den_renL ρ n0 σ σc h cs (by simpa [okV] using hv)]
  | .yield l, _ => by simp [ren, den, h, cut, Option.map_map, Function.comp_def]
  | .iface t v, hv => by simp only [ren, den, den_ren ρ n0 σ σc h v (by simpa [okV] using hv)]
  | .agg cs, hv => by simp only [ren, den, den_renL ρ n0 σ σc h cs (by simpa [okV] using hv)]
  | .tup cs, hv => by simp only [ren, den, den_renL ρ n0 σ σc h cs (by simpa [okV] using hv)]
theorem den_renL (ρ : List (Nat × Ix)) (n0 : Nat) (σ σc : Names) (h : ∀ i, σc i = cut ρ n0 σ i) : ∀ (l : List SV), okL ρ n0 l = true → denL σ (renL ρ n0 l) = denL σc l
  | [], _ => rfl
  | v :: l, hl => by
    simp only [okL] at hl
    split at hl
    · rename_i hv
      simp only [renL, denL, den_ren ρ n0 σ σc h v hv, den_renL ρ n0 σ σc h l hl]
    · cases hl
end
theorem own_renB (ρ : List (Nat × Ix)) (n0 : Nat) (B : SB) : own (renB ρ n0 B) = own B := by cases B <;> rfl
theorem okB_iff {ρ : List (Nat × Ix)} {n0 : Nat} {B : SB} {K : Prop} (h : okB ρ n0 B K) : K ∧ okB ρ n0 B True := by
  cases B <;> simp only [okB] at h ⊢ <;> first | exact ⟨h, trivial⟩ | exact ⟨h.2, h.1, trivial⟩ | (split at h <;> first | (rename_i hh; simp only [hh, if_true]; exact ⟨h, trivial⟩) | exact h.elim)
theorem renL_len (ρ : List (Nat × Ix)) (n0 : Nat) : ∀ (l : List SV), (renL ρ n0 l).length = l.length
  | [] => rfl
  | v :: l => by simp [renL, renL_len ρ n0 l]
theorem renL_get (ρ : List (Nat × Ix)) (n0 : Nat) : ∀ (l : List SV) (i : Nat), (renL ρ n0 l)[i]? = (l[i]?).map (ren ρ n0)
  | [], i => by simp [renL]
  | v :: l, 0 => by simp [renL]
  | v :: l, i + 1 => by simp [renL, renL_get ρ n0 l i]
theorem okL_mem {ρ : List (Nat × Ix)} {n0 : Nat} : ∀ {l : List SV} {j : Nat} {v : SV}, okL ρ n0 l = true → l[j]? = some v → okV ρ n0 v = true
  | [], j, v, _, hv => by simp at hv
  | u :: l, j, v, h, hv => by
    simp only [okL] at h
    split at h
    · cases j with
      | zero => simp at hv; subst hv; assumption
      | succ j => simp at hv; exact okL_mem h hv
    · cases h
/-- What is known of a block, by the contract's names and by the caller's. -/
theorem holds_ren {ρ : List (Nat × Ix)} {n0 : Nat} {σ σc : Names} {p : Option (Nat × Nat)} {w : World} {B : SB} (h : ∀ i, σc i = cut ρ n0 σ i) (hB : okB ρ n0 B True) :
    holds P σ p w (renB ρ n0 B) ↔ holds P σc p w B := by
  cases B <;> simp only [okB] at hB <;> simp only [renB]
  case one t row =>
    split at hB
    · rename_i hh; simp only [holds, den_renL ρ n0 σ σc h row hh]
    · exact hB.elim
  case loop st pe t ps a b =>
    split at hB
    · rename_i hh; simp only [holds, den_renL ρ n0 σ σc h t hh]
    · exact hB.elim
  case arr t sz len f =>
    simp only [holds, renL_len]
    constructor
    · rintro ⟨b, cs, h1, h2, h3, h4⟩
      refine ⟨b, cs, h1, h2, h3, fun i hi => ⟨(h4 i hi).1, fun j v hv => ?_⟩⟩
      rw [(h4 i hi).2 j (ren ρ n0 v) (by rw [renL_get, hv]; rfl), den_ren ρ n0 σ σc h v (okL_mem (hB.1 i) hv)]
    · rintro ⟨b, cs, h1, h2, h3, h4⟩
      refine ⟨b, cs, h1, h2, h3, fun i hi => ⟨(h4 i hi).1, fun j v hv => ?_⟩⟩
      rw [renL_get] at hv
      simp only [Option.map_eq_some_iff] at hv
      obtain ⟨v, hv, rfl⟩ := hv
      rw [(h4 i hi).2 j v hv, den_ren ρ n0 σ σc h v (okL_mem (hB.1 i) hv)]
  case roA sz len f =>
    simp only [holds, renL_len]
    constructor
    · rintro (h0 | ⟨b, o, h1, h4⟩)
      · exact .inl h0
      refine .inr ⟨b, o, h1, fun i hi => ⟨(h4 i hi).1, fun j v hv => ?_⟩⟩
      rw [(h4 i hi).2 j (ren ρ n0 v) (by rw [renL_get, hv]; rfl), den_ren ρ n0 σ σc h v (okL_mem (hB.1 i) hv)]
    · rintro (h0 | ⟨b, o, h1, h4⟩)
      · exact .inl h0
      refine .inr ⟨b, o, h1, fun i hi => ⟨(h4 i hi).1, fun j v hv => ?_⟩⟩
      rw [renL_get] at hv
      simp only [Option.map_eq_some_iff] at hv
      obtain ⟨v, hv, rfl⟩ := hv
      rw [(h4 i hi).2 j v hv, den_ren ρ n0 σ σc h v (okL_mem (hB.1 i) hv)]
  all_goals exact Iff.rfl
end
end Go.Sx
