/- Every operation that is compiled is sound. -/
import Derived.Test.YthedodaghjpdoaaAbsFa
import Derived.Test.YthedodaghjpdoaaAbsJ
set_option linter.unusedVariables false
set_option linter.unusedSimpArgs false
namespace Go.Abs
open Go.RowKit
section
variable {P : Program} {o : Oper} {a : Act} {m : Emb} {h : Heap} {base : Nat} {w0 w : World} {t : Tmps} {v : AV} {h' : Heap}

theorem op_sound {mo : MOp} (hc : compOp P o.op = some mo) (htodo : isTodo mo = false) (ht : TR m t a.tmps) (k : HR m h base w0 w) (he : evalOp t h mo = some (v, h')) : OpOK P o a m h' base w0 w v := by
  unfold compOp at hc
  split at hc
  · rename_i x hop
    simp only [Option.map_eq_some_iff] at hc
    obtain ⟨mx, hx, rfl⟩ := hc
    exact sound_move (.inl hop) hx ht k he
  · rename_i x hop
    simp only [Option.map_eq_some_iff] at hc
    obtain ⟨mx, hx, rfl⟩ := hc
    exact sound_move (.inr hop) hx ht k he
  · rename_i c x y hop
    split at hc
    · rename_i mc mx my h1 h2 h3
      cases hc
      exact sound_pick hop h1 h2 h3 ht k he
    · cases hc
  · rename_i ty hop
    split at hc
    · rename_i i hi
      split at hc
      · rename_i z hz
        simp only [Option.map_eq_some_iff] at hc
        obtain ⟨l, hl, rfl⟩ := hc
        exact sound_alloc hop hi hz hl k he
      · cases hc
    · cases hc
  · rename_i ty x hop
    split at hc
    · rename_i n mx hn hx
      cases hc
      exact sound_box hop hx ht k he
    · cases hc
  · rename_i ty ps hop
    split at hc
    · rename_i fs i hu hi
      split at hc
      · rename_i z pl hz hpl
        split at hc
        · rename_i mz mps hmz hmps
          cases hc
          exact sound_build hop hu hi hz hpl hmz hmps ht k he
        · cases hc
      · cases hc
    · rename_i n e i hu hi
      split at hc
      · rename_i z s hz hs
        split at hc
        · rename_i mz mps hmz hmps
          cases hc
          exact sound_buildArr hop hu hi hz hs hmz hmps ht k he
        · cases hc
      · cases hc
    · cases hc
  · rename_i ty n ps hop
    split at hc
    · rename_i e hu
      split at hc
      · rename_i i hi
        split at hc
        · cases hc
        · rename_i hsz
          split at hc
          · rename_i z hz
            split at hc
            · rename_i l mps hl hmps
              cases hc
              exact sound_buildSlice hop hu hi hsz hz hl hmps ht k he
            · cases hc
          · cases hc
      · cases hc
    · cases hc
  · rename_i ty x hop
    split at hc
    · rename_i agg mx hagg hx
      cases hc
      exact sound_load hop hagg hx ht k he
    · cases hc
  · rename_i ty x y hop
    split at hc
    · rename_i n mx my hn hx hy
      cases hc
      exact sound_store hop hn hx hy ht k he
    · cases hc
  · rename_i x hop
    simp only [Option.map_eq_some_iff] at hc
    obtain ⟨mx, hx, rfl⟩ := hc
    exact sound_nilCheck hop hx ht k he
  · rename_i op ty x y ty' hop
    split at hc
    · rename_i hif
      split at hc
      · rename_i neg hneg
        split at hc
        · rename_i hny
          simp only [Option.map_eq_some_iff] at hc
          obtain ⟨mx, hx, rfl⟩ := hc
          exact sound_isNil hop hif hneg (.inl ⟨hny, hx⟩) ht k he
        · split at hc
          · rename_i hnx
            simp only [Option.map_eq_some_iff] at hc
            obtain ⟨mx, hx, rfl⟩ := hc
            exact sound_isNil hop hif hneg (.inr ⟨hnx, hx⟩) ht k he
          · cases hc
      · cases hc
    · split at hc
      · rename_i mx my hx hy
        split at hc
        · cases hc
          exact sound_bin hop hx hy ht k he
        · split at hc
          · rename_i neg hneg
            split at hc
            · rename_i kk hk
              cases hc
              exact sound_eqv hop hk hneg hx hy ht k he
            · split at hc
              · rename_i ks n hks hagg
                split at hc
                · rename_i hg
                  cases hc
                  exact sound_eqAgg hop hks hagg (ck_guard 5 hks (Nat.le_of_ble_eq_true hg)) hneg hx hy ht k he
                · cases hc
              · cases hc
          · cases hc
      · cases hc
  · rename_i op ty x hop
    simp only [Option.map_eq_some_iff] at hc
    obtain ⟨mx, hx, rfl⟩ := hc
    exact sound_un hop hx ht k he
  · rename_i src dst x hop
    split at hc
    · rename_i d kk mx hs hd hx
      cases hc
      exact sound_convInt hop hs hd hx ht k he
    · rename_i mx hs hd hx _
      cases hc
      exact sound_convStr hop ‹_› ‹_› ‹_› ht k he
    · cases hc
  · rename_i ty x hop
    split at hc
    · rename_i hcon
      simp only [Option.map_eq_some_iff] at hc
      obtain ⟨mx, hx, rfl⟩ := hc
      exact sound_mkIface hop hcon hx ht k he
    · cases hc
  · rename_i f first cap hop
    split at hc
    · rename_i hf
      simp only [Option.map_eq_some_iff] at hc
      obtain ⟨mx, hx, rfl⟩ := hc
      exact sound_mkFn hop hf hx ht k he
    · cases hc
  · rename_i ty hop
    cases hc
    exact sound_mkMap hop k he
  · rename_i ty x lo hi hop
    split at hc
    · rename_i mx mlo mhi hu hx hlo hhi
      cases hc
      exact sound_sliceStr hop hu hx hlo hhi ht k he
    · rename_i e mx mlo mhi hu hx hlo hhi
      simp only [Option.map_eq_some_iff] at hc
      obtain ⟨s, hs, rfl⟩ := hc
      exact sound_sliceSlc hop hu hs hx hlo hhi ht k he
    · cases hc
  · rename_i s x f hop
    split at hc
    · rename_i fs mx hu hx
      split at hc
      · rename_i fd hf
        split at hc
        · rename_i n hn
          split at hc
          · cases hc
          · rename_i hn0
            cases hc
            exact sound_fieldAddr hop hu hf hn hn0 hx ht k he
        · cases hc
      · cases hc
    · cases hc
  · rename_i s x f hop
    split at hc
    · rename_i fs mx hu hx
      split at hc
      · rename_i fd hf
        simp only [Option.map_eq_some_iff] at hc
        obtain ⟨agg, hagg, rfl⟩ := hc
        exact sound_field hop hu hf hagg hx ht k he
      · cases hc
    · cases hc
  · rename_i ty x i hop
    split at hc
    · rename_i e mx mi hu hx hi
      simp only [Option.map_eq_some_iff] at hc
      obtain ⟨s, hs, rfl⟩ := hc
      exact sound_indexAddr hop hu hs hx hi ht k he
    · rename_i n e mx mi hu hx hi
      simp only [Option.map_eq_some_iff] at hc
      obtain ⟨s, hs, rfl⟩ := hc
      exact sound_indexArr hop hu hs hx hi ht k he
    · cases hc
  · rename_i ty x i hop
    split at hc
    · rename_i mx mi hu hx hi
      cases hc
      exact sound_indexStr hop hu hx hi ht k he
    · rename_i n e mx mi hu hx hi
      split at hc
      · rename_i s agg hs hagg
        cases hc
        exact sound_indexAgg hop hu hs hagg hx hi ht k he
      · cases hc
    · cases hc
  · rename_i x i hop
    simp only [Option.map_eq_some_iff] at hc
    obtain ⟨mx, hx, rfl⟩ := hc
    exact sound_extract hop hx ht k he
  · rename_i ty x hop
    split at hc
    · rename_i hu
      simp only [Option.map_eq_some_iff] at hc
      obtain ⟨mx, hx, rfl⟩ := hc
      exact sound_rangeStr hop hu hx ht k he
    · cases hc
  · rename_i x hop
    simp only [Option.map_eq_some_iff] at hc
    obtain ⟨mx, hx, rfl⟩ := hc
    exact sound_nextStr hop hx ht k he
  · split at hc
    · cases hc
      simp [evalOp] at he
    · cases hc
  · rename_i args argTypes hop
    split at hc
    · rename_i ty mx hty hx
      split at hc
      · rename_i hu
        cases hc
        exact sound_lenStr hop hty hu hx ht k he
      · rename_i e hu
        cases hc
        exact sound_lenSlc hop hty hu hx ht k he
      · rename_i n e hu
        cases hc
        exact sound_lenConst hop hty hu hx ht k he
      · rename_i kt vt hu
        cases hc
        exact sound_lenMap hop hty hu hx ht k he
      · cases hc
    · cases hc
  · rename_i args argTypes hop
    split at hc
    · rename_i ty u ms mx h0 h1 hs hx
      split at hc
      · rename_i e e2 hty hu
        simp only [Option.bind_eq_some_iff] at hc
        obtain ⟨i, hi, hc⟩ := hc
        split at hc
        · cases hc
        · rename_i hsz
          simp only [Option.bind_eq_some_iff] at hc
          obtain ⟨z, hz, hc⟩ := hc
          split at hc
          · rename_i hzs
            cases hc
            exact sound_append hop h0 h1 hty hu hi hsz hz hzs hs hx ht k he
          · cases hc
      · cases hc
    · cases hc
  · rename_i args argTypes hop
    split at hc
    · rename_i mx my hx
      cases hc
      exact sound_min hop hx ht k he
    · cases hc
  · rename_i args argTypes hop
    split at hc
    · rename_i mx my hx
      cases hc
      exact sound_max hop hx ht k he
    · cases hc
  · cases hc
end
end Go.Abs
