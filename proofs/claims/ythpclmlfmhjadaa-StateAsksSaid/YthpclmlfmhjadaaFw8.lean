/-
  All quiet operations.
-/
import Derived.Test.YthpclmlfmhjadaaFw7
set_option linter.unusedSectionVars false
set_option linter.unusedSimpArgs false
set_option linter.unusedVariables false
namespace Go.Abs
variable [Gl : Globals]
section
variable {P : Program} {ρ : Emb} {e : Env} {H : AHeap} {a : Act} {w : World} {Pr : Nat → Prop} {h0 : Keep} {C : Prop} {v : Value}

theorem aq_sound0 {hints : List String} {o : Oper} {ao : AOp} (hc : cop0 P hints o = some ao) (hq : aq ao e H = some (C, v)) (hC : C) (he : ERel ρ e a) (hm : Models ρ H Pr h0 w) : Yields' P ρ a w o v := by
  obtain ⟨dst, op, ty, pos, after, g⟩ := o
  cases op <;> simp only [cop0] at hc
  case move x => cases hc; exact mv_sound (.inl rfl) hq he
  case assign x => cases hc; exact mv_sound (.inr rfl) hq he
  case pick => cases hc; exact pick_sound hq he
  case binOp op t x y yt =>
    split at hc
    · cases hc; exact bin_sound hq hC he
    · cases hc; exact binS_sound hq hC he
    · rename_i hu
      split at hc <;> cases hc
      · exact eqB_sound (.inl ⟨rfl, rfl⟩) hu hq he
      · exact eqB_sound (.inr ⟨rfl, rfl⟩) hu hq he
    · rename_i hu
      split at hc
      · split at hc <;> cases hc
        · exact eqNil_sound (.inl ⟨rfl, rfl⟩) hu hq he
        · exact eqNil_sound (.inr ⟨rfl, rfl⟩) hu hq he
      · cases hc
    · rename_i hu
      split at hc <;> cases hc
      · exact eqP_sound (.inl ⟨rfl, rfl⟩) hu hq he
      · exact eqP_sound (.inr ⟨rfl, rfl⟩) hu hq he
    · rename_i hu
      split at hc
      · cases hc
      · rename_i hg
        split at hc <;> cases hc
        · rename_i hf; exact eqA_sound (.inl ⟨rfl, rfl⟩) hu (by simpa using hg) hf hq he
        · rename_i hf; exact eqA_sound (.inr ⟨rfl, rfl⟩) hu (by simpa using hg) hf hq he
    · rename_i hu
      split at hc
      · rename_i hk
        split at hc <;> cases hc
        · exact eqI_sound (.inl ⟨rfl, rfl⟩) hu hk hq he
        · exact eqI_sound (.inr ⟨rfl, rfl⟩) hu hk hq he
      · cases hc
    · cases hc
  case makeSlice t l c =>
    split at hc
    · split at hc
      · split at hc
        · split at hc
          · cases hc; simp [aq] at hq
          · split at hc
            · cases hc; simp [aq] at hq
            · cases hc
        · cases hc
      · cases hc
    · cases hc
  case unOp op t x =>
    cases op <;> simp only at hc <;> cases hc
    · exact neg_sound hq he
    · exact not_sound hq he
  case convert s d x =>
    split at hc
    · rename_i h1 h2; cases hc; exact cint_sound h1 h2 hq he
    · rename_i h1 h2; cases hc; exact same_sound h1 h2 hq he
    · split at hc
      · cases hc; simp [aq] at hq
      · cases hc
    · rename_i h1 h2
      split at hc
      · rename_i h3; cases hc; exact b2s_sound h1 h2 h3 hm hq hC he
      · cases hc
    · cases hc
  case makeInterface t x =>
    split at hc
    · cases hc
    · rename_i d hu hne; cases hc
      exact mkI_sound hne (fun ms hd => hu ms hd) hq he
    · cases hc
  case makeFunc fn first cap => cases hc; exact mkF_sound hq he
  case fieldAddr s x f =>
    split at hc
    · rename_i hu
      split at hc
      · rename_i hf
        split at hc
        · rename_i hi
          split at hc
          · rename_i hz; cases hc; exact fa_sound hu hf hi hz hq he
          · cases hc
        · cases hc
      · cases hc
    · cases hc
  case indexAddr t x i =>
    split at hc
    · rename_i hu
      split at hc
      · rename_i hi
        split at hc
        · cases hc; exact ia_sound hu hi hq hC he
        · cases hc
      · cases hc
    · rename_i hu
      split at hc
      · rename_i hi
        split at hc
        · rename_i hz; cases hc; exact iaA_sound hu hi hz.2 hq hC he
        · cases hc
      · cases hc
    · cases hc
  case index t x i =>
    split at hc
    · rename_i hu; cases hc; exact ix_sound hu hq hC he
    · cases hc
  case slice t x lo hi mx =>
    split at hc
    · rename_i hu
      split at hc
      · rename_i hn; cases hc
        obtain rfl : mx = none := by simpa using hn
        exact slS_sound hu hq hC he
      · cases hc
    · rename_i hu
      split at hc
      · rename_i hi
        split at hc
        · rename_i hz; cases hc; exact sl_sound hu hi hz hm hq hC he
        · cases hc
      · cases hc
    · cases hc
  case lookup t x i ok =>
    split at hc
    · rename_i hu
      split at hc
      · rename_i hk hi
        split at hc
        · rename_i hz
          split at hc
          · rename_i hh; cases hc
            obtain ⟨rfl, hat⟩ := hh
            exact lookup_sound hu hk hi hz hat hm hq he
          · cases hc
        · cases hc
      · cases hc
    · cases hc
  case mapEntry t x i =>
    split at hc
    · split at hc
      · split at hc
        · split at hc
          · cases hc; simp [aq] at hq
          · cases hc
        · cases hc
      · cases hc
    · cases hc
  case entryStore t m s x => cases hc; simp [aq] at hq
  case makeMap t r =>
    cases r with
    | none => simp only at hc; cases hc; simp [aq] at hq
    | some r => cases hc
  case nilCheck x => cases hc; exact nilchk_sound hq he
  case extract x i => cases hc; exact ex_sound hq he
  case load t x =>
    split at hc
    · rename_i hu hi; cases hc; exact load_sound' hu hi hm hq hC he
    · cases hc
  case build t parts =>
    split at hc
    · rename_i hu hi
      split at hc
      · rename_i hz
        split at hc
        · rename_i hzz
          split at hc
          · rename_i hp
            split at hc
            · rename_i hps; cases hc; exact build_sound hu hi hz hzz hp hps hq he
            · cases hc
          · cases hc
        · cases hc
      · cases hc
    · cases hc
  case call c =>
    split at hc
    · cases hc; simp [aq] at hq
    · cases hc; simp [aq] at hq
    · rename_i hcal
      split at hc
      · rename_i t x ht hx
        split at hc
        · rename_i hu; cases hc; exact lenS_sound hcal ht hx hu hq he
        · rename_i hu; cases hc; exact len_sound hcal ht hx hu hq he
        · cases hc
      · cases hc
    · rename_i hcal
      split at hc
      · rename_i hx; cases hc; exact mx_sound hcal hx hq he
      · cases hc
    · rename_i hcal
      split at hc
      · rename_i hx; cases hc; exact mn_sound hcal hx hq he
      · rename_i hx; cases hc; exact mn3_sound hcal hx hq he
      · cases hc
    · rename_i hcal
      split at hc
      · rename_i ht hx
        split at hc
        · rename_i hu; cases hc; exact cap_sound hcal ht hx hu hq he
        · cases hc
      · cases hc
    · split at hc
      · split at hc
        · split at hc
          · split at hc
            · cases hc; simp [aq] at hq
            · cases hc
          · cases hc
        · cases hc
      · cases hc
    · split at hc
      · split at hc
        · split at hc
          · split at hc
            · split at hc
              · cases hc; simp [aq] at hq
              · cases hc
            · cases hc
          · cases hc
        · cases hc
      · cases hc
    · split at hc
      · split at hc
        · split at hc
          · split at hc
            · split at hc
              · cases hc; simp [aq] at hq
              · cases hc
            · cases hc
          · cases hc
        · cases hc
      · cases hc
    · cases hc
  case alloc t =>
    split at hc
    · split at hc
      · split at hc
        · cases hc; simp [aq] at hq
        · cases hc
      · cases hc
    · cases hc
  case box t x => cases hc; simp [aq] at hq
  case buildSlice t len parts =>
    split at hc
    · split at hc
      · split at hc
        · split at hc
          · cases hc; simp [aq] at hq
          · cases hc
        · cases hc
      · cases hc
    · cases hc
  case store t x y =>
    split at hc
    · cases hc; simp [aq] at hq
    · cases hc
  all_goals cases hc
theorem aq_sound {hints : List String} {o : Oper} {ao : AOp} (hc : cop P hints o = some ao) (hq : aq ao e H = some (C, v)) (hC : C) (he : ERel ρ e a) (hm : Models ρ H Pr h0 w) : Yields' P ρ a w o v := by
  rcases cop_cases hc with h | rfl
  · exact aq_sound0 h hq hC he hm
  · simp [aq] at hq
end
end Go.Abs
