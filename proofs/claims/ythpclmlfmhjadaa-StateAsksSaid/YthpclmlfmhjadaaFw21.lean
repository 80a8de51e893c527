/-
  Regions whose order is drawn: the rule.
-/
import Derived.Test.YthpclmlfmhjadaaFw20
set_option linter.unusedSectionVars false
set_option linter.unusedSimpArgs false
set_option linter.unusedVariables false
namespace Go.Abs
variable [Gl : Globals]
section
variable {P : Program} {hints : List String} {N k : Nat} {l : List AOper} {af an : List (List Nat)} {fl : Option Nat} {K : Env → AHeap → Prop} {e0 : Env} {ρ0 : Emb} {Pr : Nat → Prop} {h0 : Keep}
variable {S : Nat → Bool} {a : Act} {w : World} {X rest : List Nat} {vals : Nat → Value} {rs : Rs} {e : Env} {H : AHeap} {ρ : Emb} {hid : Hid}

theorem alloc_run {o : Oper} {zl : List Value} {T : TypeId} (hc0 : cop P hints o = some (.alloc zl T)) (ρ : Emb) (a : Act) :
    ∃ c' : Array Value, VsRel ρ zl c'.toList ∧ ∀ w, (execOp a.eval o).run P w = .ok (.value (.pointer (some ⟨w.heap.size, 0, none⟩))) (w.alloc (.cells c' T)) := by
  obtain ⟨dst, op, ty, pos, after, g⟩ := o
  have hc := (cop_cases hc0).resolve_right (by simp)
  clear hc0
  cases op <;> simp only [cop0] at hc
  case alloc t =>
    split at hc
    · rename_i i hi
      split at hc
      · rename_i z hz
        split at hc
        · rename_i hzz; cases hc
          refine ⟨z.cells, zeros_rel hzz, fun w => ?_⟩
          simp [execOp, Instr.alloc, zeroValue, typeInfo, hi, hz, newVar, newRow]
        · cases hc
      · cases hc
    · cases hc
  case unOp op t x => cases op <;> simp only at hc <;> cases hc
  case makeMap t r => cases r <;> simp only at hc <;> cases hc
  all_goals (repeat' split at hc)
  all_goals (cases hc)

theorem anOf_out {an : List (List Nat)} {j : Nat} (h : an.length ≤ j) : anOf an j = [] := by simp [anOf, List.getElem?_eq_none h]

theorem drawOk_stat (h : drawOk l af an fl X = true) : Stat l af an fl ∧ planOk l an fl [] X = true ∧ ∀ j, j < l.length → j ∈ X := by
  simp only [drawOk, ancOk, Bool.and_eq_true, decide_eq_true_eq, List.all_eq_true, List.mem_range, List.contains_iff_mem, Bool.or_eq_true, List.any_eq_true] at h
  obtain ⟨⟨⟨⟨⟨⟨h1, h1'⟩, h2⟩, h3⟩, h4⟩, h5⟩, h6⟩ := h
  have out : ∀ {j}, l.length ≤ j → anOf an j = [] := fun hj => anOf_out (by omega)
  refine ⟨⟨apart_ordered h3, fun j hj d hd => ?_, fun j i hi => ?_, fun j i hi => ?_, h1, h6⟩, h4, h5⟩
  · obtain ⟨⟨h7, h8⟩, h9⟩ := (h2 j hj).1 d hd; exact ⟨h7, h8, h9⟩
  · rcases Nat.lt_or_ge j l.length with hj | hj
    · exact ((h2 j hj).2 i hi).1
    · rw [out hj] at hi; cases hi
  · rcases Nat.lt_or_ge j l.length with hj | hj
    · rcases ((h2 j hj).2 i hi).2 with h7 | ⟨d, h7, h8⟩
      · exact .inl h7
      · exact .inr ⟨d, h7, h8⟩
    · rw [out hj] at hi; cases hi

theorem filter_less {L : List Nat} {p p' : Nat → Bool} (hs : ∀ j, p' j = true → p j = true) : (L.filter p').length ≤ (L.filter p).length ∧ ∀ i ∈ L, p i = true → p' i = false → (L.filter p').length < (L.filter p).length := by
  induction L with
  | nil => simp
  | cons a L ih =>
    obtain ⟨ih1, ih2⟩ := ih
    have ha := hs a
    cases hp' : p' a <;> cases hp : p a
    · simp only [List.filter_cons, hp, hp', Bool.false_eq_true, if_false]
      refine ⟨ih1, fun i hi h1 h2 => ?_⟩
      rcases List.mem_cons.1 hi with rfl | hi
      · rw [hp] at h1; cases h1
      · exact ih2 i hi h1 h2
    · simp only [List.filter_cons, hp, hp', Bool.false_eq_true, if_false, if_true, List.length_cons]
      exact ⟨by omega, fun i hi h1 h2 => by omega⟩
    · rw [hp', hp] at ha; cases ha rfl
    · simp only [List.filter_cons, hp, hp', if_true, List.length_cons]
      refine ⟨by omega, fun i hi h1 h2 => ?_⟩
      rcases List.mem_cons.1 hi with rfl | hi
      · rw [hp'] at h2; cases h2
      · have := ih2 i hi h1 h2; omega

def cnt (n : Nat) (S : Nat → Bool) : Nat := ((List.range n).filter fun j => !S j).length
theorem cnt_add {n i : Nat} (hi : i < n) (hS : S i = false) : cnt n (add S i) < cnt n S := by
  refine (filter_less (p := fun j => !S j) (p' := fun j => !(add S i) j) fun j hj => ?_).2 i (List.mem_range.2 hi) (by simp [hS]) (by simp [add])
  simp only [add] at hj
  split at hj
  · cases hj
  · exact hj
theorem cnt_zero {n : Nat} (h : cnt n S = 0) : ∀ j, j < n → S j = true := by
  intro j hj
  cases hS : S j with
  | true => rfl
  | false =>
    have : j ∈ (List.range n).filter fun j => !S j := List.mem_filter.2 ⟨List.mem_range.2 hj, by simp [hS]⟩
    rw [List.eq_nil_of_length_eq_zero h] at this; cases this

def ran (listed : Array Bool) : Nat → Bool := fun j => listed.getD j false

theorem ran_set {listed : Array Bool} {i : Nat} (hi : i < listed.size) : ran (listed.setIfInBounds i true) = add (ran listed) i := by
  funext j
  simp only [ran, add]
  by_cases h : j = i
  · subst h; simp [hi]
  · rw [if_neg h, getD_set_ne false (Ne.symm h)]

/-- The drawn run has come to its end. -/
theorem DInv.finish (hst : Stat l af an fl) {Q : APost} (hK : ∀ e H, K e H → Q .normal e H) (hS : ∀ j, j < l.length → S j = true)
    (h : DInv P N k l an fl K e0 ρ0 Pr h0 S a w X rest vals rs e H ρ hid) : Post N k ρ0 Pr h0 Q .normal a w := by
  obtain ⟨X, rest, vals, rs, e, H, ρ, hid, h, hn⟩ := h.norm hst
  cases rest with
  | cons i rest =>
    have := hS i (plan_head h.plan).1
    rw [hn.1] at this; cases this
  | nil =>
    have hall : ∀ j, j < l.length → j ∈ X := fun j hj => (h.all j hj).resolve_right (by simp)
    cases hid with
    | some p =>
      obtain ⟨j, b, ob⟩ := p
      obtain ⟨_, h2, h3, _⟩ := h.hok.ok j b ob rfl
      exact absurd (hall j (h.sub j h2).1) h3
    | none =>
      have hm := h.mem
      rw [hidPr_none, hidKeep_none] at hm
      have hdw := h.dw
      rw [List.filterMap_nil, DW] at hdw
      refine ⟨ρ, e, H, hK _ _ hdw, ⟨⟨fun t v hv => ?_, h.defers⟩, h.size, hm⟩, h.agree⟩
      refine h.act t v (fun j b ob o hh => by cases hh) ?_
      rw [← hv, h.env t]
      unfold val
      rw [lastw_congr (S' := inn X)]
      intro i hi _
      rw [hS i hi, inn_mem.2 (hall i hi)]

theorem draw_any (hst : Stat l af an fl) {ops : Array Oper} (hall : ops.toList.mapM (coper P hints N ops) = some l) (haf : ops.toList.map binding = af) {Q : APost} (hK : ∀ e H, K e H → Q .normal e H) :
    ∀ (fuel : Nat) (listed : Array Bool) (a : Act) (w : World), listed.size = l.length → cnt l.length (ran listed) ≤ fuel →
      (∃ X rest vals rs e H ρ hid, DInv P N k l an fl K e0 ρ0 Pr h0 (ran listed) a w X rest vals rs e H ρ hid) → wpAny P .any ops (Post N k ρ0 Pr h0 Q) fuel listed a w := by
  obtain ⟨hlen, hget⟩ := mapM_get hall
  have hready : ∀ {listed : Array Bool} {i : Nat}, listed.size = l.length → (i ∈ Region.ready .any ops listed ↔ i < l.length ∧ ran listed i = false ∧ ∀ d ∈ anOf af i, ran listed d = true) := by
    intro listed i hsz
    rw [mem_ready]
    have hD : ∀ j, j < l.length → listed.getD j true = listed.getD j false := fun j hj => by simp [hsz, hj]
    have hafi : ∀ x, ops[i]? = some x → anOf af i = binding x := fun x hx => by
      rw [← haf]
      simp only [anOf, List.getD_eq_getElem?_getD, List.getElem?_map, Array.getElem?_toList, hx]
      rfl
    constructor
    · rintro ⟨h1, x, hx, h2⟩
      have hil : i < l.length := by
        have := (Array.getElem?_eq_some_iff.1 hx).1
        simp at hlen; omega
      refine ⟨hil, by show listed.getD i false = false; rw [← hD i hil]; exact h1, fun d hd => ?_⟩
      rw [hafi x hx] at hd
      simp only [binding, List.mem_map, List.mem_filter] at hd
      obtain ⟨ed, ⟨he1, he2⟩, rfl⟩ := hd
      exact h2 ed (by simpa using he1) he2
    · rintro ⟨hil, h1, h2⟩
      obtain ⟨x, hx, _⟩ := hget i _ (List.getElem?_eq_getElem hil)
      have hx' : ops[i]? = some x := by simpa using hx
      refine ⟨by rw [hD i hil]; exact h1, x, hx', fun ed he hb => h2 ed.on ?_⟩
      rw [hafi x hx']
      simp only [binding, List.mem_map, List.mem_filter]
      exact ⟨ed, ⟨by simpa using he, hb⟩, rfl⟩
  have hfull : ∀ {listed : Array Bool}, listed.size = l.length → Region.ready .any ops listed = [] → ∀ j, j < l.length → ran listed j = true := by
    intro listed hsz hr j
    induction j using Nat.strongRecOn with
    | _ j ih =>
      intro hj
      cases hS : ran listed j with
      | true => rfl
      | false =>
        have : j ∈ Region.ready .any ops listed := (hready hsz).2 ⟨hj, hS, fun d hd => by
          have := (hst.dir j hj d hd).1
          exact ih d this (by omega)⟩
        rw [hr] at this; cases this
  intro fuel
  induction fuel with
  | zero =>
    rintro listed a w hsz hc ⟨X, rest, vals, rs, e, H, ρ, hid, h⟩
    have hS := cnt_zero (Nat.le_zero.1 hc)
    refine ⟨?_, h.finish hst hK hS⟩
    cases hr : Region.ready .any ops listed with
    | nil => rfl
    | cons i r =>
      have := (hready hsz).1 (by rw [hr]; simp : i ∈ Region.ready .any ops listed)
      rw [hS i this.1] at this
      cases this.2.1
  | succ fuel ih =>
    rintro listed a w hsz hc ⟨X, rest, vals, rs, e, H, ρ, hid, h⟩
    refine ⟨fun hr => h.finish hst hK (hfull hsz hr), fun i hi => ?_⟩
    obtain ⟨hil, hS, hAD⟩ := (hready hsz).1 hi
    obtain ⟨x, hx, hco⟩ := hget i _ (List.getElem?_eq_getElem hil)
    have hx' : ops[i]? = some x := by simpa using hx
    obtain ⟨o, ho⟩ : ∃ o, l[i]? = some o := ⟨_, List.getElem?_eq_getElem hil⟩
    rw [List.getElem?_eq_getElem hil] at ho
    simp only [Option.some.injEq] at ho
    rw [ho] at hco
    have ho : l[i]? = some o := by rw [List.getElem?_eq_getElem hil, ho]
    obtain ⟨h1, h2, h3, h4⟩ := coper_parts hco
    have hAS : ∀ y ∈ anOf an i, ran listed y = true := fun y hy => by
      rcases hst.back i y hy with h5 | ⟨d, h5, h6⟩
      · exact hAD y h5
      · exact h.clo d (hAD d h5) y h6
    have hdN : ∀ d, o.dst = some d → d < N := fun d hd => h3 d (by rw [← h2]; exact hd)
    obtain ⟨X, rest, vals, rs, e, H, ρ, hid, h, hn⟩ := h.norm hst
    have hsz' : (listed.setIfInBounds i true).size = l.length := by simpa using hsz
    have hran : ran (listed.setIfInBounds i true) = add (ran listed) i := ran_set (by omega)
    have hcnt : cnt l.length (ran (listed.setIfInBounds i true)) ≤ fuel := by
      rw [hran]
      have := cnt_add (S := ran listed) hil hS
      omega
    have go : ∀ {a' w' X rest vals rs e H ρ hid}, DInv P N k l an fl K e0 ρ0 Pr h0 (add (ran listed) i) a' w' X rest vals rs e H ρ hid → wpAny P .any ops (Post N k ρ0 Pr h0 Q) fuel (listed.setIfInBounds i true) a' w' := fun hd =>
      ih _ _ _ hsz' hcnt ⟨_, _, _, _, _, _, _, _, by rw [hran]; exact hd⟩
    unfold wpOp
    simp only [hx']
    rw [h2] at hdN
    by_cases hiX : i ∈ X
    · obtain ⟨ej, hp⟩ := h.pend i hiX hS o ho
      have hAX : ∀ y ∈ anOf an i, y ∈ X := fun y hy => inn_mem.1 (h.xclo i (inn_mem.2 hiX) y hy)
      have hv := h.view hst ho hS hAS hAX hp.same
      obtain ⟨c1, c2, c3, c4⟩ := same_step (cut_same (ts := o.reads) (e := ej)) H
      rcases hp.does with ⟨h5, h6⟩ | ⟨h5, C, h6, h7, _⟩
      · rw [← c4] at h5
        rw [wanted_rel hv h4 h5, if_neg (by simp)]
        have := h.late hst ho hS hAS hiX (by rw [h2]; exact hdN) (v' := undef) (by rw [h6]; exact .tuple .nil)
        rw [h2] at this
        exact go this
      · rw [← c4] at h5
        rw [wanted_rel hv h4 h5, if_pos rfl]
        rw [← c1] at h6
        obtain ⟨v', hrun, hvr⟩ := aq_sound h1 h6 h7 hv h.mem
        left
        unfold Oper.wp
        rw [hrun, Oper.upon_value]
        have := h.late hst ho hS hAS hiX (by rw [h2]; exact hdN) hvr
        rw [h2] at this
        exact go this
    · have hir : i ∈ rest := (h.all i hil).resolve_left hiX
      cases rest with
      | nil => cases hir
      | cons y rest =>
        obtain ⟨hyl, hyX, hyanc, ⟨oy, hoy, hysy⟩, hyplan⟩ := plan_head h.plan
        by_cases hiy : i = y
        · subst hiy
          rw [ho] at hoy; cases hoy
          have hview : ∀ t ∈ o.reads, look e t = val l e0 vals (inn (anOf an i)) t := fun t ht => by
            rw [h.env t]
            refine val_anc hst.ord h.xclo ho ?_ (fun d hd => inn_mem.2 (hyanc d hd)) (fun hm => Nat.lt_irrefl _ (hst.lt i i hm)) ht
            cases hx : inn X i with
            | false => rfl
            | true => exact absurd (inn_mem.1 hx) hiX
          have hv := h.view hst ho hS hAS hyanc hview
          obtain ⟨c1, c2, c3, c4⟩ := same_step (cut_same (ts := o.reads) (e := e)) H
          obtain ⟨_, o2, ho2, hsync⟩ := hn
          rw [ho] at ho2; cases ho2
          have hdw := h.dw
          simp only [List.filterMap_cons, ho, Option.map_some] at hdw
          rw [DW_cons] at hdw
          split at hdw
          · exact hdw.elim
          · rename_i t hw
            rw [← c4] at hw
            split at hdw
            · rename_i ht; subst ht
              rw [wanted_rel hv h4 hw, if_pos rfl]
              left
              unfold Oper.wp
              split at hdw
              · rename_i f vs hcal
                rw [← c3] at hcal
                obtain ⟨⟨fn, c, hf, hb, hnn⟩, hcall⟩ := hdw
                obtain ⟨args', hargs, hrun⟩ := call_enter (w := w) h1 hcal hv hf hb hnn
                rw [hrun, Oper.upon_enter]
                refine (hcall ρ _ _ w args' hargs h.mem).mono fun en w' ⟨v, v', ρ', H', he, hR, hvv, hM, hag⟩ => ?_
                subst he
                simp only []
                have := h.next hst ho hS hAS (by rw [h2]; exact hdN) hag hvv hM (.inr hR.1) hR.2
                rw [h2] at this
                exact go this
              · split at hdw
                · rename_i C v H' hs
                  rw [← c2] at hs
                  obtain ⟨v', w', ρ', hrun, hl, hvv, hM⟩ := aeff_sound h1 hs hdw.1 hv h.mem
                  have := h.next hst ho hS hAS (by rw [h2]; exact hdN) (le_agree h.mem hl) hvv hM (.inr hdw.2.1) hdw.2.2
                  rw [h2] at this
                  rcases hrun with hrun | ⟨hrun, rfl⟩
                  · rw [hrun, Oper.upon_value]; exact go this
                  · rw [hrun, Oper.upon_skip]; exact go this
                · exact hdw.elim
            · rename_i ht
              obtain rfl : t = false := by simpa using ht
              rw [wanted_rel hv h4 hw, if_neg (by simp)]
              have := h.next hst ho hS hAS (by rw [h2]; exact hdN) (fun _ _ => rfl) (v' := undef) (.tuple .nil) h.mem (.inl rfl) hdw
              rw [h2] at this
              exact go this
        · have hir' : i ∈ rest := (List.mem_cons.1 hir).resolve_left hiy
          have hfl : fl = some i := by
            obtain ⟨hyS, o2, ho2, hsync⟩ := hn
            rw [hoy] at ho2; cases ho2
            rcases hysy hsync i hir' with h5 | h5
            · have := hAS y h5; rw [hyS] at this; cases this
            · exact h5
          obtain rfl : hid = none := by
            cases hh : hid with
            | none => rfl
            | some p =>
              obtain ⟨j, b, ob⟩ := p
              obtain ⟨h5, h6, _⟩ := h.hok.ok j b ob hh
              rw [hfl] at h5; cases h5
              rw [hS] at h6; cases h6
          have hflo := hst.flo
          rw [hfl] at hflo
          simp only [flOk, ho] at hflo
          split at hflo
          · rename_i d z T hoz; cases hoz
            obtain ⟨c', hz, hrun⟩ := alloc_run h1 ρ a
            rw [wanted_rel (r := true) (ρ := ρ) (ERel.mk (e := []) (fun t v hv => by simp [look] at hv) h.defers) h4 rfl, if_pos rfl]
            left
            unfold Oper.wp
            rw [hrun w, Oper.upon_value]
            have := h.ahead hst ho hS hAS hiX hfl (hdN _ (by rw [← h2])) hz
            rw [← h2]
            exact go this
          · cases hflo

theorem Models.heap {w' : World} (hm : Models ρ H Pr h0 w) (hh : w'.heap = w.heap) (hio : w'.os = w.os ∧ w'.output = w.output) : Models ρ H Pr h0 w' :=
  ⟨fun i o ho => let ⟨L, hL, hok⟩ := hm.ok i o ho; ⟨L, hL, hok.mono (Emb.le_refl ρ) fun _ => by rw [hh]⟩, hm.bound, hm.own, hm.inj, fun b hb => by rw [hh]; exact hm.keep b hb, hm.ro, hm.rop, fun x hx => by rw [hh]; exact hm.glob x hx, ⟨hio.1.trans hm.io.1, hio.2.trans hm.io.2⟩⟩

/-- A region whose order is drawn. -/
theorem sw_draw {s : List Item} {Q : APost} {plan : List Nat} (hmix : P.follows .mixedOrders = true) (hok : drawOk l af an fl plan = true) (hk : k ≤ H.length)
    (h : DW P an (SW P hints N k s Q) (plan.filterMap fun i => (l[i]?).map (i, ·)) [] e H) : SW P hints N k (.code (.dops l af) :: s) Q e H := by
  obtain ⟨hst, hplan, hin⟩ := drawOk_stat hok
  rw [SW_code]
  intro c hc
  cases c <;> simp only [ccode] at hc <;> first | (cases hc; done) | skip
  case region id ops draw =>
    split at hc
    · rename_i l' hl
      split at hc <;> cases hc
      rename_i hd; subst hd
      intro ρ Pr h0 a w hs
      refine wp_region_any hmix ?_
      have hlen := (mapM_get hl).1
      simp at hlen
      refine draw_any (K := SW P hints N k s Q) (e0 := e) (an := an) (fl := fl) hst hl rfl (fun e H hK => hK) _ _ _ _ (by simpa using hlen) ?_ ⟨[], plan, fun _ => undef, [], e, H, ρ, none, ?_⟩
      · have : ∀ m (S : Nat → Bool), cnt m S ≤ m := fun m S => by
          have := List.length_filter_le (fun j => !S j) (List.range m)
          simpa [cnt] using this
        rw [hlen]; exact this _ _
      · have hr : ran (Array.replicate ops.size false) = fun _ => false := by
          funext j; simp only [ran, Array.getD_eq_getD_getElem?, Array.getElem?_replicate]; split <;> rfl
        rw [hr]
        refine
          { sub := fun j hj => by cases hj
            clo := fun j hj => by cases hj
            plan := hplan
            all := fun j hj => .inr (hin j hj)
            xlt := fun j hj => by cases hj
            xclo := fun j hj => by simp [inn] at hj
            syn := fun j hj => by cases hj
            pend := fun j hj => by cases hj
            env := fun t => ?_
            act := fun t v _ hv => ?_
            size := hs.size
            defers := hs.env.defers
            dw := h
            mem := ?_
            hok := ⟨fun j b ob hh => by cases hh⟩
            klen := hk
            agree := fun _ _ => rfl
            hro := hs.mem.rop
            hgl := fun x hx => (hs.mem.glob x hx).1 }
        · have : lastw (fun j => (l[j]?).bind (·.dst)) (inn []) t l.length = none := by
            cases hl : lastw (fun j => (l[j]?).bind (·.dst)) (inn []) t l.length with
            | none => rfl
            | some i => have := (lastw_some hl).2.1; simp [inn] at this
          simp [val, this]
        · have : lastw (fun j => (l[j]?).bind (·.dst)) (fun _ => false) t l.length = none := by
            cases hl : lastw (fun j => (l[j]?).bind (·.dst)) (fun _ => false) t l.length with
            | none => rfl
            | some i => have := (lastw_some hl).2.1; cases this
          simp only [val, this] at hv
          exact hs.env.tmps t v hv
        · rw [hidPr_none, hidKeep_none]
          exact hs.mem.heap rfl ⟨rfl, rfl⟩
    · cases hc
  all_goals (split at hc <;> first | (cases hc; done) | (split at hc <;> cases hc; done))
end
end Go.Abs
