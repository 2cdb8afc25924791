/- From the program's code to the abstract machine's; and that an operation does there what it does here. -/
import Derived.Test.YthedodaghjpdoaaAbsB
import Derived.Laws.Sem
import Derived.Laws.Cells
import Derived.Laws.Entries
import Derived.Laws.Strings
import Derived.Laws.StructEq
import Derived.Laws.AppendOwn
import Derived.Laws.OwnMore
import Derived.ArgAppend
set_option linter.unusedVariables false
namespace Go.Abs
open Go.RowKit

/-! ### Compilation -/
def allM {α β : Type} (f : α → Option β) : List α → Option (List β)
  | [] => some []
  | a :: as => match f a, allM f as with
    | some b, some bs => some (b :: bs)
    | _, _ => none

def toAV : Nat → Value → Option AV
  | _, .bool b => some (.bool b)
  | _, .int k n => some (.int k n)
  | _, .string s => some (.str s.data.toList)
  | _, .pointer none => some .nilptr
  | _, .slice none 0 0 => some .nilslice
  | _, .map none => some .nilmap
  | _, .nilFunc => some .nilfn
  | _, .nilIface => some .niliface
  | d + 1, .iface t v => (toAV d v).map (.iface t)
  | _, _ => none

/-- The cells of a variable's first value. -/
def toCells (vs : List Value) : Option (List AV) := allM (toAV 4) vs

def sizeT (P : Program) (t : TypeId) : Option Nat := (P.info? t).map (·.size)
def isAggD : TypeDesc → Bool
  | .struct _ => true
  | .array _ _ => true
  | _ => false
def aggT (P : Program) (t : TypeId) : Option (Option Nat) :=
  match P.underlying t, P.info? t with
  | some d, some i => some (if isAggD d then some i.size else none)
  | _, _ => none
def zeroT (P : Program) (t : TypeId) : Option (Array Value) := (P.info? t).bind fun i => i.zero.map (·.cells)

def compO : Operand → Option MO
  | .tmp t => some (.tmp t)
  | .const v => (toAV 4 v).map .const
  | .func f => some (.const (.fn f []))
  | .global _ => none

def compOs (l : List Operand) : Option (List MO) := allM compO l
def compOpt : Option Operand → Option (Option MO)
  | none => some none
  | some x => (compO x).map some

/-! ### Simple facts -/
theorem allM_spec {α β : Type} {f : α → Option β} : ∀ {l : List α} {r : List β}, allM f l = some r → r.length = l.length ∧ ∀ (i : Nat) (b : β), r[i]? = some b → ∃ a, l[i]? = some a ∧ f a = some b
  | [], r, h => by simp [allM] at h; subst h; simp
  | a :: as, r, h => by
    simp only [allM] at h
    split at h
    · rename_i b bs hb hbs
      cases h
      obtain ⟨h1, h2⟩ := allM_spec hbs
      refine ⟨by simp [h1], fun i c hc => ?_⟩
      cases i with
      | zero => simp at hc; subst hc; exact ⟨a, by simp, hb⟩
      | succ i => simpa using h2 i c (by simpa using hc)
    · cases h

theorem VR_toAV (m : Emb) : ∀ (d : Nat) (v : Value) (a : AV), toAV d v = some a → VR m a v ∧ isCell v = true := by
  intro d
  induction d with
  | zero =>
    intro v a h
    unfold toAV at h
    split at h <;> first
      | (injection h with h; subst h; refine ⟨?_, rfl⟩; simp [VR]; done)
      | omega
      | (simp at h; done)
  | succ d ih =>
    intro v a h
    unfold toAV at h
    split at h
    case h_9 d' t x hd =>
      obtain rfl : d = d' := by omega
      cases hx : toAV d x with
      | none => simp [hx] at h
      | some y =>
        simp [hx] at h
        subst h
        exact ⟨by simp only [VR]; exact ⟨_, rfl, (ih _ _ hx).1⟩, rfl⟩
    all_goals first
      | (injection h with h; subst h; refine ⟨?_, rfl⟩; simp [VR]; done)
      | (simp at h; done)

/-- The values of a frame. -/
structure TR (m : Emb) (t : Tmps) (tmps : Array Value) : Prop where
  vals : VRs m t tmps.toList

theorem TR.mono {m m' : Emb} {t : Tmps} {tmps : Array Value} (h : TR m t tmps) (hl : m.le m') : TR m' t tmps := ⟨VRs.mono hl _ _ h.vals⟩

theorem TR.get {m : Emb} {t : Tmps} {tmps : Array Value} (h : TR m t tmps) (i : Nat) : VR m (t.getD i .undef) (tmps.getD i undef) := by
  have hl := h.vals.length
  rcases Nat.lt_or_ge i t.length with hi | hi
  · obtain ⟨v, hv, hr⟩ := h.vals.get i _ (List.getElem?_eq_getElem hi)
    have e1 : t.getD i .undef = t[i] := by simp [List.getD, List.getElem?_eq_getElem hi]
    have e2 : tmps.getD i undef = v := by
      have : tmps[i]? = some v := by simpa using hv
      simp [Array.getD_eq_getD_getElem?, this]
    rw [e1, e2]; exact hr
  · have e1 : t.getD i .undef = .undef := by simp [List.getD, List.getElem?_eq_none hi]
    have e2 : tmps.getD i undef = undef := by
      have : tmps.size ≤ i := by simpa using (by omega : tmps.toList.length ≤ i)
      simp [Array.getD_eq_getD_getElem?, Array.getElem?_eq_none this]
    rw [e1, e2]; simp [VR, undef]

theorem compO_sound {m : Emb} {t : Tmps} {a : Act} {x : Operand} {mx : MO} (h : compO x = some mx) (ht : TR m t a.tmps) : VR m (mx.eval t) (a.eval x) := by
  cases x with
  | tmp i => simp [compO] at h; subst h; exact ht.get i
  | const v =>
    simp only [compO, Option.map_eq_some_iff] at h
    obtain ⟨c, hc, rfl⟩ := h
    exact (VR_toAV m 4 v c hc).1
  | func f => simp [compO] at h; subst h; simp [MO.eval, Act.eval, VR, VRs]
  | global g => simp [compO] at h

theorem compOs_sound {m : Emb} {t : Tmps} {a : Act} : ∀ {l : List Operand} {r : List MO}, compOs l = some r → TR m t a.tmps → VRs m (r.map (·.eval t)) (l.map a.eval)
  | [], r, h, ht => by simp [compOs, allM] at h; subst h; simp [VRs]
  | x :: l, r, h, ht => by
    simp only [compOs, allM] at h
    split at h
    · rename_i b bs hb hbs
      cases h
      simp only [List.map_cons, VRs]
      exact ⟨_, _, rfl, compO_sound hb ht, compOs_sound hbs ht⟩
    · cases h

theorem TR.put {m : Emb} {t : Tmps} {a : Act} (h : TR m t a.tmps) (d : Option Nat) {v : AV} {cv : Value} (hv : VR m v cv) : TR m (Abs.put t d v) (a.put d cv).tmps := by
  cases d with
  | none => exact h
  | some d =>
    refine ⟨VRs.of_get ?_ fun i x hx => ?_⟩
    · simp [Abs.put, Act.put, h.vals.length]
    · simp only [Abs.put, Act.put, List.getElem?_set, Array.toList_setIfInBounds] at hx ⊢
      by_cases hd : d = i
      · subst hd
        simp only [if_true] at hx ⊢
        split at hx
        · rename_i hlt
          cases hx
          have hlen := h.vals.length
          rw [if_pos (by omega)]
          exact ⟨cv, rfl, hv⟩
        · cases hx
      · simp only [hd, if_false] at hx ⊢
        exact h.vals.get i x hx
end Go.Abs
