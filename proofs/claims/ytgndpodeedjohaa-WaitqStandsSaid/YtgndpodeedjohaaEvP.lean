/-
  An evaluator of closed runs, last part: what it says of code is so.
-/
import Derived.Test.YtgndpodeedjohaaEvO
namespace Go.Ev
open Go.RowKit
set_option linter.unusedSimpArgs false
set_option linter.unnecessarySimpa false
set_option linter.unusedVariables false

/-- of code with so much fuel -/
structure Says (P : Program) (n : Nat) : Prop where
  mo : ∀ {c : Code} {fr fr' : Fr} {s s' : St} {ex : Ex}, evC P n c fr s = some (ex, fr', s') → Mo s s'
  wp : ∀ {c : Code} {fr fr' : Fr} {s s' : St} {ex : Ex} {FP : Nat → Prop} {n0 hi B : Nat} {m : Mu} {H : Nat → Option RO} {w : World} {a : Act} {Q : Exit → Act → World → Prop}, evC P n c fr s = some (ex, fr', s') → Fits FP n0 hi s' → Inv FP n0 hi B m s H w → TR m fr a →
    (∀ a' w' m' H', TR m' fr' a' → Inv FP n0 hi B m' s' H' w' → Ste B m s H w m' s' H' w' → Q ex.to a' w') → c.wp P Q a w
  rounds : ∀ {b : Code} {fr fr' : Fr} {s s' : St} {ex : Ex} {FP : Nat → Prop} {n0 hi B : Nat} {m : Mu} {H : Nat → Option RO} {w : World} {a : Act} {Q : Exit → Act → World → Prop}, evC P n (.loop b) fr s = some (ex, fr', s') → Fits FP n0 hi s' → Inv FP n0 hi B m s H w → TR m fr a →
    (∀ a' w' m' H', TR m' fr' a' → Inv FP n0 hi B m' s' H' w' → Ste B m s H w m' s' H' w' → Q ex.to a' w') → Code.rounds P b Q n a w
theorem evF_split {P : Program} {run : Code → Fr → St → Option (Ex × Fr × St)} {g : FuncId} {args : List Value} {s s' : St} {v : Value} (h : evF P run g args s = some (v, s')) :
    ∃ fn c ex fr s1 vs, P.funcs[g]? = some fn ∧ fn.body = some c ∧ (fn.name == "runtime.NumGoroutine") = false ∧ run c ⟨.leaf, args, args.length + (fn.ntmps - args.length)⟩ s = some (ex, fr, s1) ∧ (∀ id, ex ≠ .exit id) ∧
      evRes P fr fn.results.toList s1 = some (vs, s') ∧ resOf vs = some v := by
  unfold evF at h
  split at h
  · rename_i fn hfn
    have hfn : P.funcs[g]? = some fn := by simpa using hfn
    split at h
    · rename_i c hc
      split at h
      · cases h
      · rename_i hname
        split at h
        · rename_i ex fr s1 hr
          split at h
          · cases h
          · rename_i hex
            split at h
            · rename_i vs s2 hres
              obtain ⟨v1, hv1, he⟩ := Option.map_eq_some_iff.1 h
              obtain ⟨rfl, rfl⟩ := Prod.mk.inj he
              exact ⟨fn, c, ex, fr, s1, vs, hfn, hc, by simpa using hname, hr, fun id e => hex id e, hres, hv1⟩
            · cases h
        · cases h
    · cases h
  · cases h
theorem Says.call {P : Program} {n : Nat} (h : Says P n) : CallOK P (evF P (evC P n)) := by
  refine ⟨fun {g args s v s'} he => ?_, fun {g args s v s'} he => ?_, fun {FP n0 hi B m s s' H w g args args' v} he hf hv hd => ?_⟩
  · obtain ⟨fn, c, ex, fr, s1, vs, _, _, _, h4, _, h6, _⟩ := evF_split he
    exact (h.mo h4).trans (evRes_mo _ _ _ _ h6)
  · obtain ⟨fn, c, ex, fr, s1, vs, h1, h2, h3, _⟩ := evF_split he
    exact ⟨fn, h1, h3, by rw [h2]; rfl⟩
  · obtain ⟨fn, c, ex, fr, s1, vs, h1, h2, h3, h4, h5, h6, h7⟩ := evF_split he
    have mo2 := evRes_mo _ _ _ _ h6
    refine calls_of_wp h1 h2 ?_
    refine h.wp h4 (mo2.fits hf) hv (TR.start hd) ?_
    intro a' w' m' H' ht' hv' hst
    obtain ⟨vs', g1, g2, g3, g4⟩ := evRes_spec ht' _ _ _ _ h6 hf hv'
    obtain ⟨v', k1, k2⟩ := resOf_dn h7 g2
    have hr := run_results g1
    rw [k2] at hr
    have hfin : a'.defers = [] ∧ ∃ u, (results fn a'.tmps).run P w' = .ok u w' ∧ Ret FP n0 hi B m s H w v s' (.returned u) w' :=
      ⟨ht'.defers, v', hr, v', m', H', rfl, k1, g3, hst.trans g4⟩
    cases ex with
    | normal => exact hfin
    | ret => exact hfin
    | exit id => exact absurd rfl (h5 id)
theorem says (P : Program) (hm : P.follows .mixedOrders = true) : ∀ n, Says P n
  | 0 => ⟨(fun h => by cases h), (fun h => by cases h), (fun h => by cases h)⟩
  | n + 1 => by
    have ih := says P hm n
    have hc := ih.call
    have loop : ∀ {b : Code} {fr fr' : Fr} {s s' : St} {ex : Ex} {FP : Nat → Prop} {n0 hi B : Nat} {m : Mu} {H : Nat → Option RO} {w : World} {a : Act} {Q : Exit → Act → World → Prop}, evC P (n + 1) (.loop b) fr s = some (ex, fr', s') → Fits FP n0 hi s' → Inv FP n0 hi B m s H w → TR m fr a →
        (∀ a' w' m' H', TR m' fr' a' → Inv FP n0 hi B m' s' H' w' → Ste B m s H w m' s' H' w' → Q ex.to a' w') → Code.rounds P b Q (n + 1) a w := by
      intro b fr fr' s s' ex FP n0 hi B m H w a Q h hf hv ht hQ
      simp only [evC] at h
      rw [rounds_succ]
      split at h
      · rename_i ex1 fr1 s1 h1
        split at h
        · refine ih.wp h1 ((ih.mo h).fits hf) hv ht ?_
          intro a' w' m' H' ht' hv' hst
          exact ih.rounds h hf hv' ht' fun a2 w2 m2 H2 t2 v2 st2 => hQ a2 w2 m2 H2 t2 v2 (hst.trans st2)
        · rename_i hne
          cases h
          refine ih.wp h1 hf hv ht ?_
          intro a' w' m' H' ht' hv' hst
          have := hQ a' w' m' H' ht' hv' hst
          cases ex with
          | normal => exact absurd rfl hne
          | ret => exact this
          | exit id => exact this
      · cases h
    refine ⟨fun {c fr fr' s s' ex} h => ?_, fun {c fr fr' s s' ex FP n0 hi B m H w a Q} h hf hv ht hQ => ?_, loop⟩
    · cases c <;> simp only [evC] at h
      case skip => cases h; exact Mo.refl _
      case label => cases h; exact Mo.refl _
      case exit => cases h; exact Mo.refl _
      case ret => cases h; exact Mo.refl _
      case seq x y =>
        split at h
        · rename_i h1
          split at h
          · exact (ih.mo h1).trans (ih.mo h)
          · cases h; exact ih.mo h1
        · cases h
      case cond =>
        split at h
        · split at h
          · exact ih.mo h
          · cases h
        · cases h
      case block =>
        split at h
        · rename_i h1
          split at h
          · split at h
            · cases h; exact ih.mo h1
            · cases h; exact ih.mo h1
          · cases h; exact ih.mo h1
        · cases h
      case loop =>
        split at h
        · rename_i h1
          split at h
          · exact (ih.mo h1).trans (ih.mo h)
          · cases h; exact ih.mo h1
        · cases h
      case scope => exact ih.mo h
      case region id ops draw =>
        split at h
        · obtain ⟨x, hx, he⟩ := Option.map_eq_some_iff.1 h
          cases he
          exact evD_mo (fr' := x.1) hc hx
        · split at h
          · obtain ⟨x, hx, he⟩ := Option.map_eq_some_iff.1 h
            cases he
            exact evOps_mo (fr' := x.1) hc ops _ _ _ hx
          · cases h
      all_goals cases h
    · cases c
      case skip => simp only [evC] at h; cases h; exact wp_skip (hQ a w m H ht hv (Ste.refl _ _ _ _ _))
      case label => simp only [evC] at h; cases h; exact wp_label (hQ a w m H ht hv (Ste.refl _ _ _ _ _))
      case exit => simp only [evC] at h; cases h; exact wp_exit (hQ a w m H ht hv (Ste.refl _ _ _ _ _))
      case ret => simp only [evC] at h; cases h; exact wp_ret (hQ a w m H ht hv (Ste.refl _ _ _ _ _))
      case seq x y =>
        simp only [evC] at h
        split at h
        · rename_i ex1 fr1 s1 h1
          split at h
          · refine wp_seq (ih.wp h1 ((ih.mo h).fits hf) hv ht ?_)
            intro a' w' m' H' ht' hv' hst
            exact ih.wp h hf hv' ht' fun a2 w2 m2 H2 t2 v2 st2 => hQ a2 w2 m2 H2 t2 v2 (hst.trans st2)
          · rename_i hne
            cases h
            refine wp_seq (ih.wp h1 hf hv ht ?_)
            intro a' w' m' H' ht' hv' hst
            have := hQ a' w' m' H' ht' hv' hst
            cases ex with
            | normal => exact absurd rfl hne
            | ret => exact this
            | exit id => exact this
        · cases h
      case cond c x y =>
        simp only [evC] at h
        split at h
        · rename_i hok
          split at h
          · rename_i t hval
            have he := ht.eval hok
            rw [hval] at he
            exact wp_cond (Option.some.inj he).symm (ih.wp h hf hv ht hQ)
          · cases h
        · cases h
      case block id b =>
        simp only [evC] at h
        split at h
        · rename_i ex1 fr1 s1 h1
          split at h
          · rename_i id'
            split at h
            · rename_i hid
              cases h
              refine wp_block (ih.wp h1 hf hv ht ?_)
              intro a' w' m' H' ht' hv' hst
              have := hQ a' w' m' H' ht' hv' hst
              simp only [Ex.to, Exit.inBlock, hid, if_true]
              exact this
            · rename_i hid
              cases h
              refine wp_block (ih.wp h1 hf hv ht ?_)
              intro a' w' m' H' ht' hv' hst
              have := hQ a' w' m' H' ht' hv' hst
              simp only [Ex.to, Exit.inBlock, hid, if_false]
              exact this
          · rename_i hne
            cases h
            refine wp_block (ih.wp h1 hf hv ht ?_)
            intro a' w' m' H' ht' hv' hst
            have := hQ a' w' m' H' ht' hv' hst
            cases ex with
            | normal => exact this
            | ret => exact this
            | exit id' => exact absurd rfl (hne id')
        · cases h
      case loop b => exact wp_loop_rounds (n + 1) (loop h hf hv ht hQ)
      case scope b =>
        simp only [evC] at h
        refine wp_scope_straight (ih.wp h hf hv ht ?_)
        intro a' w' m' H' ht' hv' hst
        have := hQ a' w' m' H' ht' hv' hst
        cases ex with
        | normal => exact this
        | ret => exact this
        | exit id => exact this
      case region id ops draw =>
        simp only [evC] at h
        split at h
        · rename_i hdr
          subst hdr
          obtain ⟨x, hx, he⟩ := Option.map_eq_some_iff.1 h
          cases he
          exact evD_wp (fr' := x.1) hm hc hx hf hv ht hQ
        · rename_i hdr
          have hdr : draw = false := by simpa using hdr
          subst hdr
          split at h
          · rename_i hok
            obtain ⟨x, hx, he⟩ := Option.map_eq_some_iff.1 h
            cases he
            exact wp_region_list (evOps_wp (fr' := x.1) hc ops _ _ _ _ _ _ _ hok hx hf hv ht hQ)
          · cases h
      all_goals (simp only [evC] at h; cases h)
/-- a closed call: what comes out, and that nothing old has turned -/
def st0 : St := { hp := .leaf, nx := 0, ac := 0, wr := 0 }
theorem closed_call {P : Program} (hm : P.follows .mixedOrders = true) (n : Nat) {g : FuncId} {args : List Value} {v : Value} {s' : St} (h : evF P (evC P n) g args st0 = some (v, s')) (hv : cl v = true) (ha : args.all cl = true) (w : World) :
    Calls P g args.toArray w fun e w' => e = .returned v ∧ Below w.heap.size w w' := by
  have hok := (says P hm n).call
  have hinv : Inv (fun _ => True) 0 s'.nx w.heap.size emp st0 (fun _ => none) w :=
    ⟨⟨(fun _ _ h => by cases h), (fun _ _ _ _ _ _ h => by cases h)⟩, fun _ _ _ => rfl, fun _ _ _ => ⟨rfl, rfl⟩, Nat.le_refl _, Nat.le_refl _⟩
  have hargs : dnL (dn emp) args = some args := by
    rw [dnL_iff]
    apply List.map_congr_left
    intro x hx
    simp only [List.all_eq_true] at ha
    exact cl_dn (ha x hx) emp
  refine (hok.sp h ⟨Nat.le_refl _, fun _ _ _ => trivial⟩ hinv hargs).mono ?_
  rintro e w' ⟨v', m', H', rfl, h1, h2, h3⟩
  rw [cl_eq hv h1]
  exact ⟨rfl, h3.bel⟩
end Go.Ev
