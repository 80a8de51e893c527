/-
  Regions whose order is drawn: each step keeps what holds.
-/
import Derived.Test.YthpclmlfmhjadaaFw18
set_option linter.unusedSectionVars false
set_option linter.unusedSimpArgs false
set_option linter.unusedVariables false
namespace Go.Abs
variable [Gl : Globals]
section
variable {P : Program} {hints : List String} {N k : Nat} {l : List AOper} {af an : List (List Nat)} {fl : Option Nat} {K : Env → AHeap → Prop} {e0 : Env} {ρ0 : Emb} {Pr : Nat → Prop} {h0 : Keep}
variable {S : Nat → Bool} {a : Act} {w : World} {X rest : List Nat} {vals : Nat → Value} {rs : Rs} {e : Env} {H : AHeap} {ρ : Emb} {hid : Hid}

theorem Models.unprotect {j b : Nat} {ob : Obj} (hm : Models ρ H (hidPr Pr (some (j, b, ob))) (hidKeep h0 (some (j, b, ob))) w) (hb : ¬ Pr b) (hro : ∀ b, h0.ro b → Pr b) (hgl : ∀ x ∈ Gl.tab, Pr x.1) :
    Models ρ H Pr h0 w ∧ w.heap[b]? = some ob ∧ b < w.heap.size ∧ ∀ i x M, H[i]? = some x → x ≠ .dead → ρ i = some M → M.abs = false → M.blk ≠ b := by
  have hk := hm.keep b (.inr ⟨j, ob, rfl⟩)
  refine ⟨⟨hm.ok, hm.bound, fun i o L hi ho hL hab hp => hm.own i o L hi ho hL hab (.inl hp), hm.inj, fun b' hb' => ?_, hm.ro, hro, fun x hx => ⟨hgl x hx, (hm.glob x hx).2⟩, hm.io⟩, ?_, hk.2, ?_⟩
  · have h1 := hm.keep b' (.inl hb')
    have hne : b' ≠ b := fun he => hb (he ▸ hb')
    simp only [hidKeep, if_neg hne] at h1
    exact h1
  · rw [hk.1]; simp [hidKeep]
  · intro i x M hx hd hM hab he
    cases hxo : x with
    | dead => exact hd hxo
    | blk c T => exact hm.own i x M hx (by rw [hxo]; rfl) hM hab (.inr ⟨j, ob, by rw [he]⟩)
    | row sz c T => exact hm.own i x M hx (by rw [hxo]; rfl) hM hab (.inr ⟨j, ob, by rw [he]⟩)
    | map es => exact hm.own i x M hx (by rw [hxo]; rfl) hM hab (.inr ⟨j, ob, by rw [he]⟩)
    | fro c => exact hm.own i x M hx (by rw [hxo]; rfl) hM hab (.inr ⟨j, ob, by rw [he]⟩)
    | ro c =>
      subst hxo
      have := hro _ (hm.ro i c M hx hM hab)
      exact hb (he ▸ this)

theorem Pend.keep {H' : AHeap} {i : Nat} {v : Value} {rs' : Rs} {j : Nat} {o : AOper} {ej : Env} (h : Pend l an e0 vals rs H j o ej) (hji : j ≠ i) (hia : i ∉ anOf an j) {ai : List Nat} (hre : recheck rs ai H') (hna : j ∉ ai) (hrs : ∀ r ∈ rs, r ∈ rs') :
    Pend l an e0 (upd vals i v) rs' H' j o ej := by
  refine ⟨fun t ht => ?_, ?_⟩
  · rw [h.same t ht]
    exact val_vals fun m hm => by
      have : m ≠ i := fun he => by subst he; exact hia (inn_mem.1 hm)
      simp [upd, this]
  · simp only [upd, if_neg hji]
    rcases h.does with h1 | ⟨h1, C, h2, h3, h4⟩
    · exact .inl h1
    · cases hl : o.op.looks with
      | false => exact .inr ⟨h1, C, by rw [aq_blind hl ej H' H]; exact h2, h3, fun hh => by cases hh⟩
      | true =>
        obtain ⟨D, h5, h6⟩ := recheck_mem hre (h4 hl) hna
        exact .inr ⟨h1, D, h5, h6, fun _ => hrs _ (h4 hl)⟩

/-- The plan comes to a block that was made ahead. -/
theorem DInv.unhide (hst : Stat l af an fl) {i b : Nat} {ob : Obj}
    (h : DInv P N k l an fl K e0 ρ0 Pr h0 S a w X (i :: rest) vals rs e H ρ (some (i, b, ob))) :
    ∃ vals' rs' e' H' ρ', DInv P N k l an fl K e0 ρ0 Pr h0 S a w (i :: X) rest vals' rs' e' H' ρ' none := by
  obtain ⟨hil, hiX, hanc, hsy, hplan⟩ := plan_head h.plan
  obtain ⟨hfl, hiS, _, hnp, z, T, d, c', ho, hob, hz, had⟩ := h.hok.ok _ _ _ rfl
  have hiXf : inn X i = false := by
    cases hx : inn X i with
    | false => rfl
    | true => exact absurd (inn_mem.1 hx) hiX
  obtain ⟨hM, hhb, hbs, hne⟩ := h.mem.unprotect hnp h.hro h.hgl
  have hdw := h.dw
  simp only [List.filterMap_cons, ho, Option.map_some] at hdw
  rw [DW_cons] at hdw
  simp only [wantedA, AOp.sync, if_true, callee, aeff, true_and] at hdw
  obtain ⟨hre, hdw⟩ := hdw
  have hle : ρ.le (ext ρ H.length ⟨false, b, 0, z.length, 0⟩) := le_ext (hM.bound _ (Nat.le_refl _))
  have hzl : z.length = c'.size := by have := hz.length; simpa using this
  refine ⟨upd vals i (.pointer (some ⟨H.length, 0, none⟩)), rs, bind (some d) (.pointer (some ⟨H.length, 0, none⟩)) e, H ++ [.blk z T], ext ρ H.length ⟨false, b, 0, z.length, 0⟩, ?_⟩
  refine
    { sub := fun j hj => ⟨(h.sub j hj).1, ?_⟩
      clo := h.clo
      plan := hplan
      all := fun j hj => ?_
      xlt := fun j hj => ?_
      xclo := ?_
      syn := fun j hj o' ho' hs' => ?_
      pend := fun j hj hSj o' ho' => ?_
      env := fun t => ?_
      act := fun t v' _ hv' => ?_
      size := h.size
      defers := h.defers
      dw := hdw
      mem := ?_
      hok := ⟨fun j b ob he => by cases he⟩
      klen := by have := h.klen; simp; omega
      agree := fun m hm => ?_
      hro := h.hro
      hgl := h.hgl }
  · rcases (h.sub j hj).2 with h1 | ⟨b', ob', h1⟩
    · exact .inl (List.mem_cons_of_mem _ h1)
    · cases h1; exact .inl (by simp)
  · rcases h.all j hj with h1 | h1
    · exact .inl (List.mem_cons_of_mem _ h1)
    · rcases List.mem_cons.1 h1 with rfl | h1
      · exact .inl (by simp)
      · exact .inr h1
  · rcases List.mem_cons.1 hj with rfl | h1
    · exact hil
    · exact h.xlt j h1
  · intro j hj d hd
    rcases List.mem_cons.1 (inn_mem.1 hj) with rfl | h1
    · exact inn_mem.2 (List.mem_cons_of_mem _ (hanc d hd))
    · exact inn_mem.2 (List.mem_cons_of_mem _ (inn_mem.1 (h.xclo j (inn_mem.2 h1) d hd)))
  · rcases List.mem_cons.1 hj with rfl | h1
    · obtain ⟨o2, ho2, hsy2⟩ := hsy
      rw [ho'] at ho2; cases ho2
      exact ⟨hiS, hsy2 hs'⟩
    · obtain ⟨h2, h3⟩ := h.syn j h1 o' ho' hs'
      exact ⟨h2, fun z hz => h3 z (List.mem_cons_of_mem _ hz)⟩
  · rcases List.mem_cons.1 hj with rfl | h1
    · rw [hiS] at hSj; cases hSj
    · obtain ⟨ej, h2⟩ := h.pend j h1 hSj o' ho'
      refine ⟨ej, h2.keep (fun he => hiX (he ▸ h1)) (fun hm => hiX (inn_mem.1 (h.xclo j (inn_mem.2 h1) i hm))) hre (fun hm => ?_) fun r hr => hr⟩
      have := h.clo i hiS j hm
      rw [hSj] at this; cases this
  · rw [inn_add, val_add hst.ord h.xclo hst.lt ho hiXf]
    simp only [bind, look, Option.some.injEq]
    by_cases hdt : d = t
    · simp [hdt]
    · simp [hdt, h.env t]
  · by_cases hdt : d = t
    · subst hdt
      have hlast : lastw (fun j => (l[j]?).bind (·.dst)) S d l.length = some i := by
        refine lastw_self hil hiS (by simp [ho]) fun m h1 h2 h3 => ?_
        cases hSm : S m with
        | false => rfl
        | true =>
          cases hx : l[m]? with
          | none => simp [hx] at h3
          | some x =>
            simp [hx] at h3
            rcases hst.ord m i x _ (Nat.ne_of_gt h1) hx ho with h4 | h4 | ⟨h4, _⟩
            · have := hst.lt _ _ h4; omega
            · rcases (h.sub m hSm).2 with h5 | ⟨b', ob', h5⟩
              · exact absurd (inn_mem.1 (h.xclo m (inn_mem.2 h5) i h4)) hiX
              · cases h5; omega
            · exact absurd rfl (h4 d h3).2
      simp only [val, hlast, upd, if_true] at hv'
      cases hv'
      exact ⟨_, had, .ptr (L := ⟨false, b, 0, z.length, 0⟩) (by simp) rfl⟩
    · have hv2 : val l e0 vals S t = some v' := by
        rw [← hv']
        unfold val
        split
        · rename_i m hm
          have h3 := (lastw_some hm).2.2
          have : m ≠ i := fun he => by subst he; simp [ho] at h3; exact hdt h3
          simp [upd, this]
        · rfl
      obtain ⟨v2, h1, h2⟩ := h.act t v' (fun j b' ob' o' he ho' hd' => by
        cases he
        rw [ho] at ho'; cases ho'
        exact hdt (by simpa using hd')) hv2
      exact ⟨v2, h1, h2.mono hle⟩
  · rw [hidPr_none, hidKeep_none]
    refine hM.push (L := ⟨false, b, 0, z.length, 0⟩) ⟨rfl, rfl, rfl, c', by rw [hhb, hob], hz.mono hle⟩ (fun _ _ _ _ _ _ _ => rfl) (fun _ _ => ⟨hnp, hne⟩) (fun _ h => by cases h) (fun _ _ => rfl) (Nat.le_refl _) ⟨rfl, rfl⟩
  · have : m ≠ H.length := by have := h.klen; omega
    simp [ext, this, h.agree m hm]

/-- The plan goes on to an operation that changes memory and hasn't run. -/
def Norm (l : List AOper) (S : Nat → Bool) : List Nat → Prop
  | [] => True
  | i :: _ => S i = false ∧ ∃ o, l[i]? = some o ∧ o.op.sync = true

theorem DInv.norm (hst : Stat l af an fl) : ∀ {rest X vals rs e H ρ hid}, DInv P N k l an fl K e0 ρ0 Pr h0 S a w X rest vals rs e H ρ hid →
    ∃ X' rest' vals' rs' e' H' ρ' hid', DInv P N k l an fl K e0 ρ0 Pr h0 S a w X' rest' vals' rs' e' H' ρ' hid' ∧ Norm l S rest' := by
  intro rest
  induction rest with
  | nil => intro X vals rs e H ρ hid h; exact ⟨_, _, _, _, _, _, _, _, h, trivial⟩
  | cons i rest ih =>
    intro X vals rs e H ρ hid h
    obtain ⟨hil, hiX, hanc, ⟨o, ho, _⟩, hplan⟩ := plan_head h.plan
    cases hq : o.op.sync with
    | false =>
      obtain ⟨_, _, _, h'⟩ := h.advance hst ho hq
      exact ih h'
    | true =>
      cases hS : S i with
      | false => exact ⟨_, _, _, _, _, _, _, _, h, hS, o, ho, hq⟩
      | true =>
        rcases (h.sub i hS).2 with h1 | ⟨b, ob, h1⟩
        · exact absurd h1 hiX
        · subst h1
          obtain ⟨_, _, _, _, _, h'⟩ := h.unhide hst
          exact ih h'
end
end Go.Abs
