/-
  told: does All tell what there is: left early, and within its own loop?
-/
import Derived.Test.YtkoepaagdaconaaRgN
import Derived.StillTailTactics
import Derived.Sort.CutIn
import Derived.Outline
import Derived.Shelf.RegionOpen
import Derived.Deep.DeepCutAuto
import Derived.Deep.CutBlock
namespace Go.Proofs.Ytkoepaagdaconaa
open Go.RowKit Go.Shelf
set_option linter.unusedSimpArgs false
attribute [local go_sem] Oper.semAt_some

@[go_sem] theorem run_store_func {P : Program} {w : World} {a : Addr} {m : Mode} (f : Fn) (x y : Array Value) : (store a (.func f x y) m).run P w = stored P w a (.func f x y) m := run_store P w a _ m rfl
theorem ownFrom_but {β : Type} {S : Nat → Prop} {B : Nat} {w₀ : World} (hB : w₀.heap.size ≤ B) : OwnFrom B (fun (_ : β) W => But S w₀ W) :=
  fun _ X Y row hs hg hr => ⟨hg.os.trans hs.os, hg.tape.trans hs.tape, hg.output.trans hs.output, Nat.le_trans hs.size hg.size, fun k hk hn => (hg.block k (Nat.lt_of_lt_of_le hk hs.size) (fun e => by have := (hr k e.symm).1; omega)).trans (hs.block k hk hn)⟩
theorem But.from {S : Nat → Prop} {B : Nat} {w w' : World} (h : But S w w') (hS : ∀ k, S k → ∃ e vs, Row w k e vs) : KeepsFrom B w w' := ⟨h.size, fun k o _ hk ho => by
  refine (h.block k (Array.getElem?_eq_some_iff.1 hk).1 (fun hs => ?_)).trans hk
  obtain ⟨_, _, hr⟩ := hS k hs
  unfold Row at hr
  rw [hk] at hr
  cases hr
  cases ho⟩
theorem But.toBelow {S : Nat → Prop} {B : Nat} {w w' : World} (h : But S w w') (hB : B ≤ w.heap.size) (hS : ∀ k, S k → B ≤ k) : Below B w w' :=
  ⟨h.os, h.tape, h.output, h.size, fun k hk => h.block k (by omega) (fun hs => by have := hS k hs; omega)⟩

theorem new_one {w w' : World} {v : Value} {T : Nat} (h : w.alloc (.cells #[v] T) = w') : Row w' w.heap.size T [v] ∧ w'.heap.size = w.heap.size + 1 ∧ But (fun _ => False) w w' := by
  subst h
  exact ⟨Row.new w T [v], by show (w.heap.push _).size = _; rw [Array.size_push], (But.refl _ w).alloc _⟩
theorem okV_prefix {xs pre : List Int} (h : pre <+: xs) : okV xs pre = true := by
  obtain ⟨r, rfl⟩ := h
  unfold okV
  rw [List.all_eq_true]
  intro i hi
  have := List.mem_range.1 hi
  simp [List.getD_eq_getElem?_getD, List.getElem?_append_left this]
  omega
theorem wpIn_loopBlock {F : Fence} {n : Nat} {P : Program} {c : Code} {Q : Exit → Act → World → Prop} {a : Act} {w : World} {id : Nat} (R : Nat → World → Prop)
    (h : c.wpIn F n P (fun e a' W => (e = .normal ∨ e = .exit id) ∧ ∃ D, a' = { a with defers := { target := .collected D, args := #[] } :: a.defers } ∧ R D W) a w)
    (k : ∀ D W, R D W → Q .normal { a with defers := { target := .collected D, args := #[] } :: a.defers } W) : c.wpIn F n P (Exit.inBlock id Q) a w :=
  wpIn_mono h (fun e a' W ⟨he, D, ha, hr⟩ => by
    subst ha
    rcases he with rfl | rfl
    · exact k D W hr
    · simpa [Exit.inBlock] using k D W hr)

/-- between two rounds of a loop over All that counts in block bn and tells in block bk -/
def TellI (q : List Int) (bn bk : Nat) (o : Bool) (w₀ : World) (pre : List Int) (W : World) : Prop :=
  Row W bn 3 [.int .i64 (pre.length : Nat)] ∧ Row W bk 4 [.bool (o && okV q pre)] ∧ But (fun k => k = bn ∨ k = bk) w₀ W
theorem tellI_own (q : List Int) (bn bk : Nat) (o : Bool) (w₀ : World) {B : Nat} (hB : w₀.heap.size ≤ B) : OwnFrom B (TellI q bn bk o w₀) :=
  OwnFrom.and (Own.from (row_own bn _ (fun pre : List Int => [.int .i64 (pre.length : Nat)])) _) (OwnFrom.and (Own.from (row_own bk _ (fun pre => [.bool (o && okV q pre)])) _) (ownFrom_but hB))

theorem TellI.step {q : List Int} {bn bk : Nat} {o : Bool} {w₀ : World} {pre : List Int} {W : World} (h : TellI q bn bk o w₀ pre W) (hlen : pre.length < q.length) (hne : bn ≠ bk) (x : Int) (v : Bool) (d : Nat) (hv : v = ((o && okV q pre) && (x == q.getD pre.length 0))) :
    But (fun k => k = bn ∨ k = bk) W (((W.drewN d).setCell ⟨bk, 0, none⟩ (.bool v)).setCell ⟨bn, 0, none⟩ (.int .i64 ((pre.length : Int) + 1))) ∧
      TellI q bn bk o w₀ (pre ++ [x]) (((W.drewN d).setCell ⟨bk, 0, none⟩ (.bool v)).setCell ⟨bn, 0, none⟩ (.int .i64 ((pre.length : Int) + 1))) := by
  obtain ⟨r4, r5, hb⟩ := h
  have hb' := (((But.refl (fun k => k = bn ∨ k = bk) W).drewN d).set ⟨bk, 0, none⟩ (.bool v) (.inr rfl)).set ⟨bn, 0, none⟩ (.int .i64 ((pre.length : Int) + 1)) (.inl rfl)
  refine ⟨hb', ?_, ?_, hb.trans hb'⟩
  · have := ((r4.drewN d).far (p := ⟨bk, 0, none⟩) (by exact hne) (.bool v)).set 0 (.int .i64 ((pre.length : Int) + 1))
    rw [List.length_append, List.length_singleton]
    exact this
  · have := ((r5.drewN d).set 0 (.bool v)).far (p := ⟨bn, 0, none⟩) (by exact hne.symm) (.int .i64 ((pre.length : Int) + 1))
    rw [okV_snoc, decide_eq_true hlen, Bool.true_and, ← Bool.and_assoc, ← hv]
    exact this
theorem But.transNew {S S' : Nat → Prop} {a b c : World} (h : But S a b) (k : But S' b c) (hS : ∀ i, S' i → i < a.heap.size → S i) : But S a c :=
  ⟨k.os.trans h.os, k.tape.trans h.tape, k.output.trans h.output, Nat.le_trans h.size k.size, fun i hi hs => (k.block i (Nat.lt_of_lt_of_le hi h.size) (fun e => hs (hS i e hi))).trans (h.block i hi hs)⟩
theorem keptBut_r {S : Nat → Prop} (W : World) : KeptBut S W W := fun _ _ _ h _ => h

/-- a loop over an iterator whose body holds another -/
theorem rangeFunc_outer {F : Fence} {n : Nat} {P : Program} {α : Type} {g : Operand} {ps : Array Tmp} {assign body : Code} {Q : Exit → Act → World → Prop} {a : Act} {w : World}
    (hro : F.round = none) (h1 : 1 ≤ n) {gf : Nat} {lb : Array Value} (hg : a.eval g = .func (.func gf) #[] lb) (hFg : F.fn gf) (eg : ∀ args w, (callFunc gf args).run P w = .ok (.enter gf args) w)
    {encs : α → Array Value} {Kp : World → World → Prop} {S Sp : List α → Prop} {N : Nat} {w0 : World} (hseq : SeqStopsK F (n - 1) P gf lb encs Kp S Sp N w0)
    (hKt : ∀ {A B C : World}, Kp A B → Kp B C → Kp A C) (hKb : ∀ (W : World) (l : Nat) (o o' : Obj), w.heap.size ≤ l → W.heap[l]? = some o → o.isCells = false → o.isWalk = false → Kp W (W.putObj l o')) (hb0 : Below w0.heap.size w0 w) (hps : ∀ x, (encs x).size = ps.size)
    (I : List α → World → Prop) (Ix : Code → List α → World → Prop) (hI : OwnFrom w.heap.size I) (hIx : ∀ c, OwnFrom w.heap.size (Ix c)) (h0 : I [] w) (a₁ : α → Act) (hKr : ∀ W, Kp W W)
    (hassign : ∀ (l : Nat) (x : α) (W : World) (K : Act → World → Prop), K (a₁ x) W →
      assign.wpIn (F.inRound l) (n - 1 - 1) P (Exit.then K (fun _ _ _ => False)) { tmps := (ps.zip (encs x)).foldl (fun t (p, v) => t.setIfInBounds p v) a.tmps, defers := [] } W)
    (hbody : ∀ (l : Nat) (pre : List α) (x : α) (W : World), w.heap.size ≤ l → (∃ r, W.heap[l]? = some (.loop r)) → I pre W → pre.length < N → body.wpIn (F.inRound l) (n - 1 - 1) P (ownPostG w.heap.size Kp I Ix (pre ++ [x]) W) (a₁ x) W)
    (hdone : ∀ (D : Nat) (xs : List α) (W : World), w.heap.size ≤ D → S xs → I xs W → W.heap[D]? = some (.deferred (some [])) → Q .normal { a with defers := { target := .collected D, args := #[] } :: a.defers } W)
    (hstop : ∀ (D : Nat) (c : Code) (pre : List α) (W : World), w.heap.size ≤ D → Sp pre → Ix c pre W → W.heap[D]? = some (.deferred (some [])) → c.wpIn F n P Q { a with defers := { target := .collected D, args := #[] } :: a.defers } W) :
    (Code.rangeFunc g ps assign body).wpIn F n P Q a w :=
  wpIn_rangeFunc_ownH hro h1 hg hFg eg hseq (fun h k => hKt h k) hKb hb0 hps I Ix hI hIx h0 (fun x a' _ => a' = a₁ x) (fun _ _ _ _ _ _ hs _ _ => hs)
    (fun l pre x W K hi hK => hassign l x W K (hK _ _ (KeepsFrom.refl _ _) (hKr W) hi rfl)) (fun l pre x a' W hl hr hi e => by subst e; exact hbody l pre x W hl hr hi) hdone hstop
/-- .. and the one within it -/
theorem rangeFunc_inner {F : Fence} {n : Nat} {P : Program} {α : Type} {g : Operand} {ps : Array Tmp} {assign body : Code} {Q : Exit → Act → World → Prop} {a : Act} {w : World}
    {l₀ : Nat} {r₀ : Loop} (hro : F.round = some l₀) (hl₀ : w.heap[l₀]? = some (.loop r₀)) (h1 : 1 ≤ n) {gf : Nat} {lb : Array Value} (hg : a.eval g = .func (.func gf) #[] lb) (hFg : F.fn gf) (eg : ∀ args w, (callFunc gf args).run P w = .ok (.enter gf args) w)
    {encs : α → Array Value} {Kp : World → World → Prop} {S Sp : List α → Prop} {N : Nat} {w0 : World} (hseq : SeqStopsK F (n - 1) P gf lb encs Kp S Sp N w0)
    (hKt : ∀ {A B C : World}, Kp A B → Kp B C → Kp A C) (hKb : ∀ (W : World) (l : Nat) (o o' : Obj), w.heap.size ≤ l → W.heap[l]? = some o → o.isCells = false → o.isWalk = false → Kp W (W.putObj l o')) (hb0 : Below w0.heap.size w0 w) (hps : ∀ x, (encs x).size = ps.size)
    (I : List α → World → Prop) (Ix : Code → List α → World → Prop) (hI : OwnFrom w.heap.size I) (hIx : ∀ c, OwnFrom w.heap.size (Ix c)) (h0 : I [] w) (a₁ : α → Act) (hKr : ∀ W, Kp W W)
    (hassign : ∀ (l : Nat) (x : α) (W : World) (K : Act → World → Prop), K (a₁ x) W →
      assign.wpIn (F.inRound l) (n - 1 - 1) P (Exit.then K (fun _ _ _ => False)) { tmps := (ps.zip (encs x)).foldl (fun t (p, v) => t.setIfInBounds p v) a.tmps, defers := [] } W)
    (hbody : ∀ (l : Nat) (pre : List α) (x : α) (W : World), I pre W → pre.length < N → body.wpIn (F.inRound l) (n - 1 - 1) P (ownPostG w.heap.size Kp I Ix (pre ++ [x]) W) (a₁ x) W)
    (hdone : ∀ (xs : List α) (W : World), S xs → I xs W → Q .normal a W)
    (hstop : ∀ (c : Code) (pre : List α) (W : World), Sp pre → Ix c pre W → c.wpIn F n P Q a W) :
    (Code.rangeFunc g ps assign body).wpIn F n P Q a w :=
  wpIn_rangeFunc_ownN hro hl₀ h1 hg hFg eg hseq (fun h k => hKt h k) hKb hb0 hps I Ix hI hIx h0 (fun x a' _ => a' = a₁ x) (fun _ _ _ _ _ _ hs _ _ => hs)
    (fun l pre x W K hi hK => hassign l x W K (hK _ _ (KeepsFrom.refl _ _) (hKr W) hi rfl)) (fun l pre x a' W _ _ hi e => by subst e; exact hbody l pre x W hi) hdone hstop

set_option maxHeartbeats 8000000 in
set_option maxRecDepth 100000 in
theorem told_c (b g n P : Nat) (all : List Int) (out room : Nat) (early : Int) (w : World) (hR : Ring w 64 3 b g n (ints (all.drop out))) (hF : Ref w P all out room) (hn : n ≤ 100) :
    Calls Try.prog 20 #[.pointer (some ⟨b, 0, none⟩), .pointer (some ⟨P, 0, none⟩), .int .i64 early] w fun e w' => e = .returned (.bool true) ∧ Below w.heap.size w w' := by
  have hlq : (all.drop out).length = all.length - out := List.length_drop
  have hqg : ∀ i, (all.drop out).getD i 0 = all.getD (out + i) 0 := fun i => by rw [List.getD_eq_getElem?_getD, List.getElem?_drop, List.getD_eq_getElem?_getD]
  have CLw := Lib.hid (fun w' (hb : Below w.heap.size w w') => refLen_c P all out room w' (hF.below hb))
  have CAw := Lib.hid (fun i w' (hb : Below w.heap.size w w') hi => refAt_c P all out room i w' (hF.below hb) hi)
  have hbg : b < w.heap.size ∧ g < w.heap.size := by
    obtain ⟨f, vs, h⟩ := hR
    exact ⟨h.obj.lt, h.room.lt⟩
  have HRw := Lib.hid hR
  have hfew := hR.few
  rw [ints_len] at hfew
  obtain ⟨q, hq⟩ : ∃ q, all.drop out = q := ⟨_, rfl⟩
  rw [hq] at hlq hqg HRw hfew
  have HQL := Lib.hid hlq
  have HQG := Lib.hid hqg
  have HBG := Lib.hid hbg
  clear hR hF hq hlq hqg hbg
  refine (callsIn_wide (n := 9)).1 ?_
  refine callsIn_of_wp_marks Try.func20 rfl trivial ?_ rfl
  simp only [Try.ntmps20, List.size_toArray, List.length_cons, List.length_nil, Nat.reduceAdd, Nat.reduceSub, Array.replicate_succ, Array.replicate_zero, List.push_toArray, List.append_toArray, List.nil_append, List.cons_append]
  refine wpIn_wide.2 ?_
  have HEN := fun (a b : Array Value) w => run_eql_func_nil (.func 27) a b w
  go_wp2_with (go_at_call 24; refine (all_c (some ⟨b, 0, none⟩) _).mono ?_; rintro e w7 ⟨rfl, rfl⟩)
  obtain ⟨wa, ha⟩ : ∃ wa, w.alloc (.cells #[.pointer (some ⟨P, 0, none⟩)] 38) = wa := ⟨_, rfl⟩
  obtain ⟨ra, sa, ba⟩ := new_one ha
  rw [ha]
  obtain ⟨wb, hb⟩ : ∃ wb, wa.alloc (.cells #[.int .i64 early] 3) = wb := ⟨_, rfl⟩
  obtain ⟨rb, sb, bb⟩ := new_one hb
  rw [hb]
  obtain ⟨wc, hc⟩ : ∃ wc, wb.alloc (.cells #[.pointer (some ⟨b, 0, none⟩)] 35) = wc := ⟨_, rfl⟩
  obtain ⟨rc, sc, bc⟩ := new_one hc
  rw [hc]
  obtain ⟨wd, hd⟩ : ∃ wd, wc.alloc (.cells #[.func (.func 27) #[] #[.pointer (some ⟨w.heap.size + 1 + 1, 0, none⟩)]] 56) = wd := ⟨_, rfl⟩
  obtain ⟨rd, sd, bd⟩ := new_one hd
  rw [hd]
  obtain ⟨we, he⟩ : ∃ we, wd.alloc (.cells #[.int .i64 0] 3) = we := ⟨_, rfl⟩
  obtain ⟨re, se, be⟩ := new_one he
  rw [he]
  obtain ⟨w1, hf⟩ : ∃ w1, we.alloc (.cells #[.bool true] 4) = w1 := ⟨_, rfl⟩
  obtain ⟨rf, sf, bf⟩ := new_one hf
  rw [hf]
  clear ha hb hc hd he hf
  have b1 : But (fun _ => False) w w1 := ba.trans (bb.trans (bc.trans (bd.trans (be.trans bf))))
  have ra := bf.row (be.row (bd.row (bc.row (bb.row ra (fun h => h)) (fun h => h)) (fun h => h)) (fun h => h)) (fun h => h)
  have rb := bf.row (be.row (bd.row (bc.row rb (fun h => h)) (fun h => h)) (fun h => h)) (fun h => h)
  have rc := bf.row (be.row (bd.row rc (fun h => h)) (fun h => h)) (fun h => h)
  have rd := bf.row (be.row rd (fun h => h)) (fun h => h)
  have re := bf.row re (fun h => h)
  rw [sa] at rb sb
  rw [sb] at rc sc
  rw [sc] at rd sd
  rw [sd] at re se
  rw [se] at rf sf
  obtain ⟨t, ht⟩ : ∃ t, w.heap.size = t := ⟨_, rfl⟩
  have HBelow : Hid (∀ S W, But S w1 W → (∀ k, S k → t ≤ k) → Below w.heap.size w W) := Lib.hid (fun S W h hS => ((b1.weaken (S' := S) (fun _ h => h.elim)).trans h).toBelow (Nat.le_refl _) (fun k hk => by rw [ht]; exact hS k hk))
  have HRw1 := Lib.hid (HRw.out.but b1 (fun h => h) (fun h => h))
  have HBG := Lib.hid (ht ▸ HBG.out)
  have HT := Lib.hid ht
  rw [ht] at ra rb rc rd re rf sf ⊢
  simp only [Nat.add_assoc, Nat.reduceAdd] at rc rd re rf sf ⊢
  have Ra := Lib.hid ra
  have Rb := Lib.hid rb
  have Rc := Lib.hid rc
  have Rd := Lib.hid rd
  have Re := Lib.hid re
  have Rf := Lib.hid rf
  have HSf := Lib.hid sf
  clear ba bb bc bd be bf ra rb rc rd re rf sa sb sc sd se sf ht b1 HRw
  refine (wpIn_wide (n := 9)).1 ?_
  refine wpIn_loopBlock (fun D W => ∃ n1 : Nat, (n1 = q.length ∨ (n1 : Int) = early) ∧ Row W (t + 4) 3 [.int .i64 n1] ∧ Row W (t + 5) 4 [.bool true] ∧ But (fun k => k = t + 4 ∨ k = t + 5) w1 W ∧ w1.heap.size ≤ D ∧ W.heap[D]? = some (.deferred (some []))) ?first ?rest
  case first =>
    have hSS : ∀ k, (k = t + 4 ∨ k = t + 5) → k < w1.heap.size := fun k hk => by have := HSf.out; rcases hk with rfl | rfl <;> omega
    refine wpIn_rangeFunc_ownF (α := Int) rfl (by omega) (gf := 27) (lb := #[.pointer (some ⟨t + 2, 0, none⟩)]) rfl trivial (enters_of Try.func27 (by kernel_rfl) rfl)
      (all_stops 7 (t + 2) b g n (fun k => k = t + 4 ∨ k = t + 5) q w1 (Rc.out.cell 0) HRw1.out hn hSS) keptBut_t keptBut_b (Below.refl _ _) (fun _ => rfl)
      (TellI q (t + 4) (t + 5) true w1) (fun c pre W => c = .exit 0 ∧ (pre.length : Int) = early ∧ TellI q (t + 4) (t + 5) true w1 pre W)
      (tellI_own q _ _ _ _ (Nat.le_refl _)) (fun c => OwnFrom.and (ownFrom_pure _ _) (OwnFrom.and (ownFrom_pure _ _) (tellI_own q _ _ _ _ (Nat.le_refl _)))) ⟨Re.out, Rf.out, But.refl _ _⟩ ?a1 ?assign ?body ?done ?stop
    case assign =>
      intro l x W K hK
      have HK := Lib.hid hK
      clear hK
      gi_wp2
      exact HK.out
    case done =>
      rintro D pre W hD rfl ⟨r4, r5, hb⟩ hK
      refine ⟨.inl rfl, D, rfl, pre.length, .inl rfl, r4, ?_, hb, hD, hK⟩
      rw [okV_self] at r5
      exact r5
    case stop =>
      rintro D c pre W hD hp ⟨rfl, he, r4, r5, hb⟩ hK
      have HX : Hid (∃ D', ({ target := .collected D, args := #[] } : Deferred) = { target := .collected D', args := #[] } ∧ ∃ n1 : Nat, (n1 = q.length ∨ (n1 : Int) = early) ∧ Row W (t + 4) 3 [.int .i64 n1] ∧ Row W (t + 5) 4 [.bool true] ∧ But (fun k => k = t + 4 ∨ k = t + 5) w1 W ∧ w1.heap.size ≤ D' ∧ W.heap[D']? = some (.deferred (some []))) := Lib.hid (by
        rw [okV_prefix hp] at r5
        exact ⟨D, rfl, pre.length, .inr he, r4, r5, hb, hD, hK⟩)
      clear r4 r5 hb hD hK hp he
      refine wpIn_exit ⟨.inr rfl, ?_⟩
      obtain ⟨D', e1, n1, h1⟩ := HX.out
      exact ⟨D', by rw [e1], n1, h1⟩
    case body =>
      rintro l pre x W ⟨r4, r5, hb⟩ hlen
      have CA := Lib.hid (CAw.out pre.length W (HBelow.out _ _ hb (fun k hk => by omega)) (by have := HQL.out; omega))
      rw [← HQG.out] at CA
      have HOK := Lib.hid (okV_snoc q pre x)
      rw [decide_eq_true hlen] at HOK
      have HPL : Hid ((pre ++ [x]).length = pre.length + 1) := Lib.hid (by simp)
      obtain ⟨y, hy⟩ : ∃ y, q.getD pre.length 0 = y := ⟨_, rfl⟩
      rw [hy] at CA HOK
      obtain ⟨o, ho⟩ : ∃ o, okV q pre = o := ⟨_, rfl⟩
      rw [ho] at HOK r5
      obtain ⟨m, hm⟩ : ∃ m, pre.length = m := ⟨_, rfl⟩
      rw [hm] at CA HPL r4 hlen
      have hmq : m < 1000 := by omega
      have a0 : W.cell? ⟨t, 0, none⟩ = some (.pointer (some ⟨P, 0, none⟩)) := (hb.row Ra.out (by omega)).cell 0
      have a1 : W.cell? ⟨t + 1, 0, none⟩ = some (.int .i64 early) := (hb.row Rb.out (by omega)).cell 0
      have a4 : W.cell? ⟨t + 4, 0, none⟩ = some (.int .i64 m) := r4.cell 0
      have f4 := r4.frozen 0
      have a5 : W.cell? ⟨t + 5, 0, none⟩ = some (.bool o) := r5.cell 0
      have f5 := r5.frozen 0
      have R4 := Lib.hid r4
      have R5 := Lib.hid r5
      have HB := Lib.hid hb
      clear hy ho hm hlen r4 r5 hb
      have HFin : Hid (∀ v d, v = (o && (true && (x == y))) → KeepsOthers W (((W.drewN d).setCell ⟨t + 5, 0, none⟩ (.bool v)).setCell ⟨t + 4, 0, none⟩ (.int .i64 ((m : Int) + 1))) ∧ KeptBut (fun k => k = t + 4 ∨ k = t + 5) W (((W.drewN d).setCell ⟨t + 5, 0, none⟩ (.bool v)).setCell ⟨t + 4, 0, none⟩ (.int .i64 ((m : Int) + 1))) ∧
          TellI q (t + 4) (t + 5) true w1 (pre ++ [x]) (((W.drewN d).setCell ⟨t + 5, 0, none⟩ (.bool v)).setCell ⟨t + 4, 0, none⟩ (.int .i64 ((m : Int) + 1)))) := Lib.hid (fun v d hv => by
        have hb := (((But.refl (fun k => k = t + 4 ∨ k = t + 5) W).drewN d).set ⟨t + 5, 0, none⟩ (.bool v) (.inr rfl)).set ⟨t + 4, 0, none⟩ (.int .i64 ((m : Int) + 1)) (.inl rfl)
        refine ⟨hb.others (fun k hk => by rcases hk with rfl | rfl; exact ⟨_, _, R4.out⟩; exact ⟨_, _, R5.out⟩), hb.keeps, ?_, ?_, HB.out.trans hb⟩
        · have := ((R4.out.drewN d).far (p := ⟨t + 5, 0, none⟩) (by show t + 4 ≠ t + 5; omega) (.bool v)).set 0 (.int .i64 ((m : Int) + 1))
          rw [HPL.out]
          exact this
        · have := ((R5.out.drewN d).set 0 (.bool v)).far (p := ⟨t + 4, 0, none⟩) (by show t + 5 ≠ t + 4; omega) (.int .i64 ((m : Int) + 1))
          rw [HOK.out, ← hv]
          exact this)
      clear R4 R5 HOK
      cases o
      all_goals (
        by_cases hea : (m : Int) + 1 = early
        · have he := beq_iff_eq.2 hea
          have HE : Hid (((pre ++ [x]).length : Int) = early) := Lib.hid (by rw [HPL.out]; exact hea)
          clear hea
          gi_wp2_with (refine ⟨trivial, ?_⟩; gi_at_call 19; refine (CallsIn.inRound l (callsIn_wide.2 CA.out)).mono ?_; rintro e w9 ⟨rfl, d, rfl⟩)
          all_goals exact ⟨(HFin.out _ _ rfl).1, rfl, HE.out, (HFin.out _ _ rfl).2.2⟩
        · have he := beq_eq_false_iff_ne.2 hea
          clear hea
          gi_wp2_with (refine ⟨trivial, ?_⟩; gi_at_call 19; refine (CallsIn.inRound l (callsIn_wide.2 CA.out)).mono ?_; rintro e w9 ⟨rfl, d, rfl⟩)
          all_goals exact HFin.out _ _ rfl)
  case rest =>
    rintro D1 W ⟨n1, hn1, r4, r5, hb, hD, hd⟩
    have CL := Lib.hid (fun d => CLw.out (W.drewN d) (below_drewN (HBelow.out _ _ hb (fun k hk => by omega)) d))
    rw [← HQL.out] at CL
    have a0 : W.cell? ⟨t, 0, none⟩ = some (.pointer (some ⟨P, 0, none⟩)) := (hb.row Ra.out (by omega)).cell 0
    have a1 : W.cell? ⟨t + 1, 0, none⟩ = some (.int .i64 early) := (hb.row Rb.out (by omega)).cell 0
    have a4 : W.cell? ⟨t + 4, 0, none⟩ = some (.int .i64 n1) := r4.cell 0
    have HB := Lib.hid hb
    have HR5 := Lib.hid r5
    have HD := Lib.hid hD
    have HDd := Lib.hid hd
    obtain ⟨lq, hlq⟩ : ∃ lq, q.length = lq := ⟨_, rfl⟩
    rw [hlq] at CL hn1
    have HLQ := Lib.hid hlq
    clear r4 r5 hb hD hd hlq
    have hx : n1 = lq ∨ (n1 ≠ lq ∧ (n1 : Int) = early) := by omega
    clear hn1
    rename_i Kk hKk
    refine hKk _ _ ?_
    refine wp_seq_k ?_
    intro K2 hK2
    dsimp only
    go_cut [55] from 47 to 110 (fun _ wd => ∃ d, wd = W.drewN d)
    case first =>
      rcases hx with hx | ⟨hx, hx2⟩
      · subst hx
        go_wp2_with fail
        go_quiet ((go_at_call 22; refine (CL.out _).mono ?_; rintro e w8 ⟨rfl, d, rfl⟩; exact ⟨rfl, _, (World.drewN_drewN _ _ _)⟩))
        go_wp2
        go_meet
        case rel => exact ⟨_, rfl⟩
      · have e0 : ((n1 : Int) == (lq : Int)) = false := beq_eq_false_iff_ne.2 (by omega)
        have e1 : decide (n1 = lq) = false := decide_eq_false hx
        have e2 : (n1 == lq) = false := beq_eq_false_iff_ne.2 hx
        have e3 : ((n1 : Int) != (lq : Int)) = true := by rw [bne, e0]; rfl
        have e4 : (n1 != lq) = true := by rw [bne, e2]; rfl
        have e5 : (!decide (n1 = lq)) = true := by rw [e1]; rfl
        subst hx2
        go_wp2_with fail
        go_quiet ((go_at_call 22; refine (CL.out _).mono ?_; rintro e w8 ⟨rfl, d, rfl⟩; exact ⟨rfl, _, (World.drewN_drewN _ _ _)⟩))
        go_wp2
        go_meet
        case rel => exact ⟨_, rfl⟩
    case rest =>
    obtain ⟨d2, hd2⟩ := hcut
    have HB2 := Lib.hid (HB.out.drewN d2)
    have HR52 := Lib.hid (HR5.out.drewN d2)
    have HDd2 : Hid ((W.drewN d2).heap[D1]? = some (.deferred (some []))) := Lib.hid HDd.out
    rw [← hd2] at HB2 HR52 HDd2
    clear HB HR5 HDd a0 a1 a4 CL hd2 hx
    have a3 : ∀ o, (wc.alloc o).cell? ⟨t + 3, 0, none⟩ = some (.func (.func 27) #[] #[.pointer (some ⟨t + 2, 0, none⟩)]) := fun o => ((HB2.out.row Rd.out (by omega)).alloc o).cell 0
    go_wp2_with fail
    obtain ⟨w2, hw2⟩ : ∃ w2, wc.alloc (.cells #[.int .i64 0] 3) = w2 := ⟨_, rfl⟩
    obtain ⟨rm, sm, bm2⟩ := new_one hw2
    rw [hw2]
    obtain ⟨bm, hbm⟩ : ∃ bm, wc.heap.size = bm := ⟨_, rfl⟩
    have h12 : w1.heap.size ≤ bm := by rw [← hbm]; exact HB2.out.size
    have hsf := HSf.out
    rw [hbm] at rm sm ⊢
    have B2 : But (fun k => k = t + 4 ∨ k = t + 5) w1 w2 := HB2.out.transNew bm2 (fun _ h => h.elim)
    have r52 := bm2.row HR52.out (fun h => h)
    have hD1 : D1 < bm := by rw [← hbm]; exact (Array.getElem?_eq_some_iff.1 HDd2.out).1
    have HD2 : Hid (w2.heap[D1]? = some (.deferred (some []))) := Lib.hid ((bm2.block D1 (by omega) (fun h => h)).trans HDd2.out)
    have HBW2 : Hid (∀ S W, But S w2 W → (∀ k, S k → t ≤ k) → Below w.heap.size w W) := Lib.hid (fun S W h hS => HBelow.out (fun k => k = t + 4 ∨ k = t + 5 ∨ S k) W ((B2.weaken (fun k hk => by rcases hk with h | h; exact .inl h; exact .inr (.inl h))).trans (h.weaken (fun k hk => .inr (.inr hk)))) (fun k hk => by rcases hk with rfl | rfl | hk; omega; omega; exact hS k hk))
    have HR2 := Lib.hid (HRw1.out.but B2 (by have := HBG.out; omega) (by have := HBG.out; omega))
    have Ra2 := Lib.hid (B2.row Ra.out (by omega))
    have Rc2 := Lib.hid (B2.row Rc.out (by omega))
    have Rd2 := Lib.hid (B2.row Rd.out (by omega))
    have HRm := Lib.hid rm
    have HR5 := Lib.hid r52
    have HS2 := Lib.hid sm
    have HN1 := Lib.hid (show t + 6 ≤ bm by omega)
    have HW1 := Lib.hid (show w.heap.size ≤ w1.heap.size by have := HT.out; omega)
    have HW2 := Lib.hid (show w.heap.size ≤ w2.heap.size by have := HT.out; omega)
    clear hw2 hbm rm sm bm2 B2 r52 HB2 HR52 HDd2 HSf Ra Rb Rc Rd Re Rf HRw1 a3 h12 hsf HBelow
    have hSS : ∀ k, (k = bm ∨ k = t + 5) → k < w2.heap.size := fun k hk => by have := HS2.out; have := HN1.out; rcases hk with rfl | rfl <;> omega
    have HSS := Lib.hid hSS
    clear hSS
    refine (wpIn_wide (n := 9)).1 ?_
    refine wpIn_loopBlock (fun D W => Row W bm 3 [.int .i64 (q.length : Nat)] ∧ Row W (t + 5) 4 [.bool true] ∧ But (fun k => k = bm ∨ k = t + 5) w2 W ∧ w2.heap.size ≤ D ∧ W.heap[D]? = some (.deferred (some []))) ?first ?rest
    case first =>
      refine rangeFunc_outer (α := Int) rfl (by omega) (gf := 27) (lb := #[.pointer (some ⟨t + 2, 0, none⟩)]) rfl trivial (enters_of Try.func27 (by kernel_rfl) rfl)
        (all_stops 7 (t + 2) b g n (fun k => k = bm ∨ k = t + 5) q w2 (Rc2.out.cell 0) HR2.out hn HSS.out) keptBut_t keptBut_b (Below.refl _ _) (fun _ => rfl)
        (TellI q bm (t + 5) true w2) (fun _ _ _ => False) (tellI_own q _ _ _ _ (Nat.le_refl _)) (fun _ _ _ _ _ hs _ _ => hs) ⟨HRm.out, HR5.out, But.refl _ _⟩ ?a2 keptBut_r ?assign ?body ?done ?stop
      case assign =>
        intro l x W K hK
        have HK := Lib.hid hK
        clear hK
        gi_wp2
        exact HK.out
      case done =>
        rintro D pre W hD rfl ⟨r4, r5, hb⟩ hK
        refine ⟨.inl rfl, D, rfl, r4, ?_, hb, hD, hK⟩
        rw [okV_self] at r5
        exact r5
      case stop =>
        rintro D c pre W _ _ h _
        exact h.elim
      case body =>
        rintro l pre x W hl ⟨rec, hrec⟩ hT hlen
        have hb := hT.2.2
        have CA := Lib.hid (CAw.out pre.length W (HBW2.out _ _ hb (fun k hk => by have := HN1.out; omega)) (by have := HQL.out; omega))
        rw [← HQG.out] at CA
        have hbt : bm ≠ t + 5 := by have := HN1.out; omega
        have hst := fun v d => hT.step hlen hbt x v d
        obtain ⟨y, hy⟩ : ∃ y, q.getD pre.length 0 = y := ⟨_, rfl⟩
        rw [hy] at CA hst
        have r4 := hT.1
        have r5 := hT.2.1
        obtain ⟨o, ho⟩ : ∃ o, (true && okV q pre) = o := ⟨_, rfl⟩
        rw [ho] at hst r5
        obtain ⟨m, hm⟩ : ∃ m, pre.length = m := ⟨_, rfl⟩
        rw [hm] at CA r4 hlen hst
        have hmq : m < 1000 := by omega
        have a0 : W.cell? ⟨t, 0, none⟩ = some (.pointer (some ⟨P, 0, none⟩)) := (hb.row Ra2.out (by have := HN1.out; omega)).cell 0
        have a4 : W.cell? ⟨bm, 0, none⟩ = some (.int .i64 m) := r4.cell 0
        have f4 := r4.frozen 0
        have a5 : W.cell? ⟨t + 5, 0, none⟩ = some (.bool o) := r5.cell 0
        have f5 := r5.frozen 0
        have HSC : Hid (∀ k, (k = bm ∨ k = t + 5) → ∃ e vs, Row W k e vs) := Lib.hid (fun k hk => by rcases hk with rfl | rfl; exact ⟨_, _, r4⟩; exact ⟨_, _, r5⟩)
        have HST := Lib.hid hst
        have HL := Lib.hid hl
        have HREC := Lib.hid hrec
        have HBb := Lib.hid hb
        clear hy ho hm hlen r4 r5 hb hst hT hl hrec
        have HFin : Hid (∀ v d, v = (o && (x == y)) → KeepsFrom w2.heap.size W (((W.drewN d).setCell ⟨t + 5, 0, none⟩ (.bool v)).setCell ⟨bm, 0, none⟩ (.int .i64 ((m : Int) + 1))) ∧ KeptBut (fun k => k = bm ∨ k = t + 5) W (((W.drewN d).setCell ⟨t + 5, 0, none⟩ (.bool v)).setCell ⟨bm, 0, none⟩ (.int .i64 ((m : Int) + 1))) ∧
            TellI q bm (t + 5) true w2 (pre ++ [x]) (((W.drewN d).setCell ⟨t + 5, 0, none⟩ (.bool v)).setCell ⟨bm, 0, none⟩ (.int .i64 ((m : Int) + 1)))) := Lib.hid (fun v d hv => ⟨(HST.out v d hv).1.from HSC.out, (HST.out v d hv).1.keeps, (HST.out v d hv).2⟩)
        by_cases hm3 : m + 1 < 3
        · have hm3' : (m : Int) + 1 < 3 := by omega
          cases o
          · simp only [Bool.false_and] at HST
            gi_upto_region 21 with (refine ⟨trivial, ?_⟩; gi_at_call 19; refine (CallsIn.inRound l (callsIn_wide.2 CA.out)).mono ?_; rintro e w9 ⟨rfl, d, rfl⟩)
            obtain ⟨hB1, hT1⟩ := HST.out _ d rfl
            generalize ((W.drewN d).setCell ⟨t + 5, 0, none⟩ (.bool false)).setCell ⟨bm, 0, none⟩ (.int .i64 ((m : Int) + 1)) = W1 at *
            have a3 : ∀ o, (W1.alloc o).cell? ⟨t + 3, 0, none⟩ = some (.func (.func 27) #[] #[.pointer (some ⟨t + 2, 0, none⟩)]) := fun o => ((hT1.2.2.row Rd2.out (by have := HN1.out; omega)).alloc o).cell 0
            have HB1 := Lib.hid hB1
            have HT1 := Lib.hid hT1
            clear hB1 hT1 a0 a4 f4 a5 f5
            gi_wp2
            obtain ⟨W0, hW0⟩ : ∃ W0, W1.alloc (.cells #[.int .i64 0] 3) = W0 := ⟨_, rfl⟩
            obtain ⟨rk, sk, bk0⟩ := new_one hW0
            rw [hW0]
            obtain ⟨kk, hkk⟩ : ∃ kk, W1.heap.size = kk := ⟨_, rfl⟩
            have hk2 : w2.heap.size ≤ kk := by rw [← hkk]; exact HT1.out.2.2.size
            have hkW : W.heap.size ≤ kk := by rw [← hkk]; exact HB1.out.size
            rw [hkk] at rk sk ⊢
            obtain ⟨o2, ho2⟩ : ∃ o2, (true && okV q (pre ++ [x])) = o2 := ⟨_, rfl⟩
            have r50 := bk0.row HT1.out.2.1 (fun h => h)
            rw [ho2] at r50
            have HO2 := Lib.hid ho2
            have hB20 : But (fun k => k = bm ∨ k = t + 5) w2 W0 := HT1.out.2.2.transNew bk0 (fun _ h => h.elim)
            have hrec0 : W0.heap[l]? = some (.loop rec) := by
              refine (bk0.block l (by have := (Array.getElem?_eq_some_iff.1 HREC.out).1; have := HB1.out.size; omega) (fun h => h)).trans ((HB1.out.block l (Array.getElem?_eq_some_iff.1 HREC.out).1 ?_).trans HREC.out)
              intro hs
              obtain ⟨_, _, h1⟩ := HSC.out l hs
              unfold Row at h1
              rw [HREC.out] at h1
              cases h1
            have hR0 := HR2.out.but hB20 (by have := HBG.out; have := HN1.out; omega) (by have := HBG.out; have := HN1.out; omega)
            have hC0 := (hB20.row Rc2.out (by have := HN1.out; omega)).cell 0
            have hA0 := hB20.row Ra2.out (by have := HN1.out; omega)
            have HN3 := Lib.hid (show t + 6 ≤ bm ∧ bm < kk by have := HN1.out; have := HSS.out bm (.inl rfl); omega)
            have hSS3 : ∀ k, (k = kk ∨ k = t + 5) → k < W0.heap.size := fun k hk => by have := HN3.out; rcases hk with rfl | rfl <;> omega
            have HB20 := Lib.hid hB20
            have HA0 := Lib.hid hA0
            have HK2 := Lib.hid hk2
            have HKW := Lib.hid hkW
            have HBK := Lib.hid bk0
            clear hW0 hkk hk2 hkW hB20 hA0 bk0 ho2 a3
            refine rangeFunc_inner (α := Int) (l₀ := l) (r₀ := rec) rfl hrec0 (by omega) (gf := 27) (lb := #[.pointer (some ⟨t + 2, 0, none⟩)]) rfl trivial (enters_of Try.func27 (by kernel_rfl) rfl)
              (SeqStopsK.inRound l (all_stops 5 (t + 2) b g n (fun k => k = kk ∨ k = t + 5) q W0 hC0 hR0 hn hSS3)) keptBut_t keptBut_b (Below.refl _ _) (fun _ => rfl)
              (TellI q kk (t + 5) o2 W0) (fun _ _ _ => False) (tellI_own q _ _ _ _ (Nat.le_refl _)) (fun _ _ _ _ _ hs _ _ => hs) ⟨rk, by rw [okV_nil, Bool.and_true]; exact r50, But.refl _ _⟩ ?a3 keptBut_r ?assign ?body ?done ?stop
            case assign =>
              intro l3 x3 W3 K hK
              have HK := Lib.hid hK
              clear hK
              gi_wp2
              exact HK.out
            case stop =>
              rintro c pre3 W3 _ h
              exact h.elim
            case body =>
              rintro l3 pre3 x3 W3 hT3 hlen3
              have hb3 := hT3.2.2
              have hbb : But (fun k => k = bm ∨ k = t + 5) w2 W3 := HB20.out.transNew hb3 (fun i hi hlt => by have := HK2.out; rcases hi with rfl | rfl; omega; exact .inr rfl)
              have CA3 := Lib.hid (CAw.out pre3.length W3 (HBW2.out _ _ hbb (fun k hk => by have := HN1.out; omega)) (by have := HQL.out; omega))
              rw [← HQG.out] at CA3
              have hst := fun v d => hT3.step hlen3 (by have := HN3.out; omega) x3 v d
              obtain ⟨y3, hy⟩ : ∃ y, q.getD pre3.length 0 = y := ⟨_, rfl⟩
              rw [hy] at CA3 hst
              have r4 := hT3.1
              have r5 := hT3.2.1
              obtain ⟨o3, ho⟩ : ∃ o, (o2 && okV q pre3) = o := ⟨_, rfl⟩
              rw [ho] at hst r5
              obtain ⟨m3, hm⟩ : ∃ m, pre3.length = m := ⟨_, rfl⟩
              rw [hm] at CA3 r4 hlen3 hst
              have hmq3 : m3 < 1000 := by omega
              have hkt : kk ≠ t + 5 := by have := HN3.out; omega
              have a0 : W3.cell? ⟨t, 0, none⟩ = some (.pointer (some ⟨P, 0, none⟩)) := (hb3.row HA0.out (by have := HN3.out; omega)).cell 0
              have a4 : W3.cell? ⟨kk, 0, none⟩ = some (.int .i64 m3) := r4.cell 0
              have f4 := r4.frozen 0
              have a5 : W3.cell? ⟨t + 5, 0, none⟩ = some (.bool o3) := r5.cell 0
              have f5 := r5.frozen 0
              have hsc : ∀ k, (k = kk ∨ k = t + 5) → ∃ e vs, Row W3 k e vs := fun k hk => by rcases hk with rfl | rfl; exact ⟨_, _, r4⟩; exact ⟨_, _, r5⟩
              have HFin3 : Hid (∀ v d, v = (o3 && (x3 == y3)) → KeepsFrom W0.heap.size W3 (((W3.drewN d).setCell ⟨t + 5, 0, none⟩ (.bool v)).setCell ⟨kk, 0, none⟩ (.int .i64 ((m3 : Int) + 1))) ∧ KeptBut (fun k => k = kk ∨ k = t + 5) W3 (((W3.drewN d).setCell ⟨t + 5, 0, none⟩ (.bool v)).setCell ⟨kk, 0, none⟩ (.int .i64 ((m3 : Int) + 1))) ∧
                  TellI q kk (t + 5) o2 W0 (pre3 ++ [x3]) (((W3.drewN d).setCell ⟨t + 5, 0, none⟩ (.bool v)).setCell ⟨kk, 0, none⟩ (.int .i64 ((m3 : Int) + 1)))) := Lib.hid (fun v d hv => ⟨(hst v d hv).1.from hsc, (hst v d hv).1.keeps, (hst v d hv).2⟩)
              clear hy ho hm hlen3 r4 r5 hb3 hbb hst hT3 hsc
              cases o3
              all_goals (
                gi_wp2_with (refine ⟨trivial, ?_⟩; gi_at_call 19; refine (CallsIn.inRound l3 (CallsIn.inRound l (callsIn_wide.2 CA3.out))).mono ?_; rintro e w13 ⟨rfl, d3, rfl⟩)
                all_goals exact HFin3.out _ _ rfl)
            case done =>
              rintro pre3 W3 hpq ⟨r4, r5, hb3⟩
              rw [hpq] at r4 r5
              rw [okV_self, Bool.and_true] at r5
              have hbW3 : But (fun k => k = bm ∨ k = t + 5) W W3 := (HB1.out.transNew HBK.out (fun _ h => h.elim)).transNew hb3 (fun i hi hlt => by have := HKW.out; rcases hi with rfl | rfl; omega; exact .inr rfl)
              have hb23 : But (fun k => k = bm ∨ k = t + 5) w2 W3 := HB20.out.transNew hb3 (fun i hi hlt => by have := HK2.out; rcases hi with rfl | rfl; omega; exact .inr rfl)
              have CL3 := Lib.hid (fun d => CLw.out (W3.drewN d) (below_drewN (HBW2.out _ _ hb23 (fun k hk => by have := HN1.out; omega)) d))
              rw [← HQL.out] at CL3
              have a0 : W3.cell? ⟨t, 0, none⟩ = some (.pointer (some ⟨P, 0, none⟩)) := (hb3.row HA0.out (by have := HN3.out; omega)).cell 0
              have a4 : W3.cell? ⟨kk, 0, none⟩ = some (.int .i64 (q.length : Nat)) := r4.cell 0
              have a5 : W3.cell? ⟨t + 5, 0, none⟩ = some (.bool o2) := r5.cell 0
              have f5 := r5.frozen 0
              have rm3 := hb3.row (HBK.out.row HT1.out.1 (fun h => h)) (by have := HN3.out; omega)
              have HEnd : Hid (∀ d, KeepsFrom w2.heap.size W ((W3.drewN d).setCell ⟨t + 5, 0, none⟩ (.bool o2)) ∧ KeptBut (fun k => k = bm ∨ k = t + 5) W ((W3.drewN d).setCell ⟨t + 5, 0, none⟩ (.bool o2)) ∧ TellI q bm (t + 5) true w2 (pre ++ [x]) ((W3.drewN d).setCell ⟨t + 5, 0, none⟩ (.bool o2))) := Lib.hid (fun d => by
                have hbE := (hbW3.drewN d).set ⟨t + 5, 0, none⟩ (.bool o2) (.inr rfl)
                refine ⟨hbE.from HSC.out, hbE.keeps, ?_, ?_, (hb23.drewN d).set ⟨t + 5, 0, none⟩ (.bool o2) (.inr rfl)⟩
                · exact (rm3.drewN d).far (p := ⟨t + 5, 0, none⟩) (by show bm ≠ t + 5; have := HN3.out; omega) _
                · rw [HO2.out]
                  exact (r5.drewN d).set 0 (.bool o2))
              obtain ⟨lq, hlq⟩ : ∃ lq, q.length = lq := ⟨_, rfl⟩
              rw [hlq] at a4 CL3
              clear r4 r5 hb3 hbW3 hb23 rm3 hlq hpq
              have hmx : Try.prog.follows .mixedOrders = true := by kernel_rfl
              cases o2
              · gi_wp2
                gi_region_with_o (refine ⟨trivial, ?_⟩)
                all_goals (
                  gi_wp2
                  exact HEnd.out _)
              · gi_wp2
                gi_region_with_o (refine ⟨trivial, ?_⟩; gi_at_call 22; refine (CallsIn.inRound l (callsIn_wide.2 (CL3.out _))).mono ?_; rintro e w9 ⟨rfl, d, rfl⟩)
                all_goals (
                  gi_wp2
                  exact HEnd.out _)
          · simp only [Bool.true_and] at HST
            gi_upto_region 21 with (refine ⟨trivial, ?_⟩; gi_at_call 19; refine (CallsIn.inRound l (callsIn_wide.2 CA.out)).mono ?_; rintro e w9 ⟨rfl, d, rfl⟩)
            obtain ⟨hB1, hT1⟩ := HST.out _ d rfl
            generalize ((W.drewN d).setCell ⟨t + 5, 0, none⟩ (.bool (x == y))).setCell ⟨bm, 0, none⟩ (.int .i64 ((m : Int) + 1)) = W1 at *
            have a3 : ∀ o, (W1.alloc o).cell? ⟨t + 3, 0, none⟩ = some (.func (.func 27) #[] #[.pointer (some ⟨t + 2, 0, none⟩)]) := fun o => ((hT1.2.2.row Rd2.out (by have := HN1.out; omega)).alloc o).cell 0
            have HB1 := Lib.hid hB1
            have HT1 := Lib.hid hT1
            clear hB1 hT1 a0 a4 f4 a5 f5
            gi_wp2
            obtain ⟨W0, hW0⟩ : ∃ W0, W1.alloc (.cells #[.int .i64 0] 3) = W0 := ⟨_, rfl⟩
            obtain ⟨rk, sk, bk0⟩ := new_one hW0
            rw [hW0]
            obtain ⟨kk, hkk⟩ : ∃ kk, W1.heap.size = kk := ⟨_, rfl⟩
            have hk2 : w2.heap.size ≤ kk := by rw [← hkk]; exact HT1.out.2.2.size
            have hkW : W.heap.size ≤ kk := by rw [← hkk]; exact HB1.out.size
            rw [hkk] at rk sk ⊢
            obtain ⟨o2, ho2⟩ : ∃ o2, (true && okV q (pre ++ [x])) = o2 := ⟨_, rfl⟩
            have r50 := bk0.row HT1.out.2.1 (fun h => h)
            rw [ho2] at r50
            have HO2 := Lib.hid ho2
            have hB20 : But (fun k => k = bm ∨ k = t + 5) w2 W0 := HT1.out.2.2.transNew bk0 (fun _ h => h.elim)
            have hrec0 : W0.heap[l]? = some (.loop rec) := by
              refine (bk0.block l (by have := (Array.getElem?_eq_some_iff.1 HREC.out).1; have := HB1.out.size; omega) (fun h => h)).trans ((HB1.out.block l (Array.getElem?_eq_some_iff.1 HREC.out).1 ?_).trans HREC.out)
              intro hs
              obtain ⟨_, _, h1⟩ := HSC.out l hs
              unfold Row at h1
              rw [HREC.out] at h1
              cases h1
            have hR0 := HR2.out.but hB20 (by have := HBG.out; have := HN1.out; omega) (by have := HBG.out; have := HN1.out; omega)
            have hC0 := (hB20.row Rc2.out (by have := HN1.out; omega)).cell 0
            have hA0 := hB20.row Ra2.out (by have := HN1.out; omega)
            have HN3 := Lib.hid (show t + 6 ≤ bm ∧ bm < kk by have := HN1.out; have := HSS.out bm (.inl rfl); omega)
            have hSS3 : ∀ k, (k = kk ∨ k = t + 5) → k < W0.heap.size := fun k hk => by have := HN3.out; rcases hk with rfl | rfl <;> omega
            have HB20 := Lib.hid hB20
            have HA0 := Lib.hid hA0
            have HK2 := Lib.hid hk2
            have HKW := Lib.hid hkW
            have HBK := Lib.hid bk0
            clear hW0 hkk hk2 hkW hB20 hA0 bk0 ho2 a3
            refine rangeFunc_inner (α := Int) (l₀ := l) (r₀ := rec) rfl hrec0 (by omega) (gf := 27) (lb := #[.pointer (some ⟨t + 2, 0, none⟩)]) rfl trivial (enters_of Try.func27 (by kernel_rfl) rfl)
              (SeqStopsK.inRound l (all_stops 5 (t + 2) b g n (fun k => k = kk ∨ k = t + 5) q W0 hC0 hR0 hn hSS3)) keptBut_t keptBut_b (Below.refl _ _) (fun _ => rfl)
              (TellI q kk (t + 5) o2 W0) (fun _ _ _ => False) (tellI_own q _ _ _ _ (Nat.le_refl _)) (fun _ _ _ _ _ hs _ _ => hs) ⟨rk, by rw [okV_nil, Bool.and_true]; exact r50, But.refl _ _⟩ ?a4 keptBut_r ?assign ?body ?done ?stop
            case assign =>
              intro l3 x3 W3 K hK
              have HK := Lib.hid hK
              clear hK
              gi_wp2
              exact HK.out
            case stop =>
              rintro c pre3 W3 _ h
              exact h.elim
            case body =>
              rintro l3 pre3 x3 W3 hT3 hlen3
              have hb3 := hT3.2.2
              have hbb : But (fun k => k = bm ∨ k = t + 5) w2 W3 := HB20.out.transNew hb3 (fun i hi hlt => by have := HK2.out; rcases hi with rfl | rfl; omega; exact .inr rfl)
              have CA3 := Lib.hid (CAw.out pre3.length W3 (HBW2.out _ _ hbb (fun k hk => by have := HN1.out; omega)) (by have := HQL.out; omega))
              rw [← HQG.out] at CA3
              have hst := fun v d => hT3.step hlen3 (by have := HN3.out; omega) x3 v d
              obtain ⟨y3, hy⟩ : ∃ y, q.getD pre3.length 0 = y := ⟨_, rfl⟩
              rw [hy] at CA3 hst
              have r4 := hT3.1
              have r5 := hT3.2.1
              obtain ⟨o3, ho⟩ : ∃ o, (o2 && okV q pre3) = o := ⟨_, rfl⟩
              rw [ho] at hst r5
              obtain ⟨m3, hm⟩ : ∃ m, pre3.length = m := ⟨_, rfl⟩
              rw [hm] at CA3 r4 hlen3 hst
              have hmq3 : m3 < 1000 := by omega
              have hkt : kk ≠ t + 5 := by have := HN3.out; omega
              have a0 : W3.cell? ⟨t, 0, none⟩ = some (.pointer (some ⟨P, 0, none⟩)) := (hb3.row HA0.out (by have := HN3.out; omega)).cell 0
              have a4 : W3.cell? ⟨kk, 0, none⟩ = some (.int .i64 m3) := r4.cell 0
              have f4 := r4.frozen 0
              have a5 : W3.cell? ⟨t + 5, 0, none⟩ = some (.bool o3) := r5.cell 0
              have f5 := r5.frozen 0
              have hsc : ∀ k, (k = kk ∨ k = t + 5) → ∃ e vs, Row W3 k e vs := fun k hk => by rcases hk with rfl | rfl; exact ⟨_, _, r4⟩; exact ⟨_, _, r5⟩
              have HFin3 : Hid (∀ v d, v = (o3 && (x3 == y3)) → KeepsFrom W0.heap.size W3 (((W3.drewN d).setCell ⟨t + 5, 0, none⟩ (.bool v)).setCell ⟨kk, 0, none⟩ (.int .i64 ((m3 : Int) + 1))) ∧ KeptBut (fun k => k = kk ∨ k = t + 5) W3 (((W3.drewN d).setCell ⟨t + 5, 0, none⟩ (.bool v)).setCell ⟨kk, 0, none⟩ (.int .i64 ((m3 : Int) + 1))) ∧
                  TellI q kk (t + 5) o2 W0 (pre3 ++ [x3]) (((W3.drewN d).setCell ⟨t + 5, 0, none⟩ (.bool v)).setCell ⟨kk, 0, none⟩ (.int .i64 ((m3 : Int) + 1)))) := Lib.hid (fun v d hv => ⟨(hst v d hv).1.from hsc, (hst v d hv).1.keeps, (hst v d hv).2⟩)
              clear hy ho hm hlen3 r4 r5 hb3 hbb hst hT3 hsc
              cases o3
              all_goals (
                gi_wp2_with (refine ⟨trivial, ?_⟩; gi_at_call 19; refine (CallsIn.inRound l3 (CallsIn.inRound l (callsIn_wide.2 CA3.out))).mono ?_; rintro e w13 ⟨rfl, d3, rfl⟩)
                all_goals exact HFin3.out _ _ rfl)
            case done =>
              rintro pre3 W3 hpq ⟨r4, r5, hb3⟩
              rw [hpq] at r4 r5
              rw [okV_self, Bool.and_true] at r5
              have hbW3 : But (fun k => k = bm ∨ k = t + 5) W W3 := (HB1.out.transNew HBK.out (fun _ h => h.elim)).transNew hb3 (fun i hi hlt => by have := HKW.out; rcases hi with rfl | rfl; omega; exact .inr rfl)
              have hb23 : But (fun k => k = bm ∨ k = t + 5) w2 W3 := HB20.out.transNew hb3 (fun i hi hlt => by have := HK2.out; rcases hi with rfl | rfl; omega; exact .inr rfl)
              have CL3 := Lib.hid (fun d => CLw.out (W3.drewN d) (below_drewN (HBW2.out _ _ hb23 (fun k hk => by have := HN1.out; omega)) d))
              rw [← HQL.out] at CL3
              have a0 : W3.cell? ⟨t, 0, none⟩ = some (.pointer (some ⟨P, 0, none⟩)) := (hb3.row HA0.out (by have := HN3.out; omega)).cell 0
              have a4 : W3.cell? ⟨kk, 0, none⟩ = some (.int .i64 (q.length : Nat)) := r4.cell 0
              have a5 : W3.cell? ⟨t + 5, 0, none⟩ = some (.bool o2) := r5.cell 0
              have f5 := r5.frozen 0
              have rm3 := hb3.row (HBK.out.row HT1.out.1 (fun h => h)) (by have := HN3.out; omega)
              have HEnd : Hid (∀ d, KeepsFrom w2.heap.size W ((W3.drewN d).setCell ⟨t + 5, 0, none⟩ (.bool o2)) ∧ KeptBut (fun k => k = bm ∨ k = t + 5) W ((W3.drewN d).setCell ⟨t + 5, 0, none⟩ (.bool o2)) ∧ TellI q bm (t + 5) true w2 (pre ++ [x]) ((W3.drewN d).setCell ⟨t + 5, 0, none⟩ (.bool o2))) := Lib.hid (fun d => by
                have hbE := (hbW3.drewN d).set ⟨t + 5, 0, none⟩ (.bool o2) (.inr rfl)
                refine ⟨hbE.from HSC.out, hbE.keeps, ?_, ?_, (hb23.drewN d).set ⟨t + 5, 0, none⟩ (.bool o2) (.inr rfl)⟩
                · exact (rm3.drewN d).far (p := ⟨t + 5, 0, none⟩) (by show bm ≠ t + 5; have := HN3.out; omega) _
                · rw [HO2.out]
                  exact (r5.drewN d).set 0 (.bool o2))
              obtain ⟨lq, hlq⟩ : ∃ lq, q.length = lq := ⟨_, rfl⟩
              rw [hlq] at a4 CL3
              clear r4 r5 hb3 hbW3 hb23 rm3 hlq hpq
              have hmx : Try.prog.follows .mixedOrders = true := by kernel_rfl
              cases o2
              · gi_wp2
                gi_region_with_o (refine ⟨trivial, ?_⟩)
                all_goals (
                  gi_wp2
                  exact HEnd.out _)
              · gi_wp2
                gi_region_with_o (refine ⟨trivial, ?_⟩; gi_at_call 22; refine (CallsIn.inRound l (callsIn_wide.2 (CL3.out _))).mono ?_; rintro e w9 ⟨rfl, d, rfl⟩)
                all_goals (
                  gi_wp2
                  exact HEnd.out _)
        · have hm3' : ¬ (m : Int) + 1 < 3 := by omega
          cases o
          all_goals (
            gi_wp2_with (refine ⟨trivial, ?_⟩; gi_at_call 19; refine (CallsIn.inRound l (callsIn_wide.2 CA.out)).mono ?_; rintro e w9 ⟨rfl, d, rfl⟩)
            all_goals exact HFin.out _ _ rfl)
    case rest =>
      rintro D2 W ⟨r4, r5, hb, hD2, hd2⟩
      have CL := Lib.hid (fun d => CLw.out (W.drewN d) (below_drewN (HBW2.out _ _ hb (fun k hk => by have := HN1.out; omega)) d))
      rw [← HQL.out] at CL
      obtain ⟨lq, hlq⟩ : ∃ lq, q.length = lq := ⟨_, rfl⟩
      rw [hlq] at r4 CL
      have a0 : W.cell? ⟨t, 0, none⟩ = some (.pointer (some ⟨P, 0, none⟩)) := (hb.row Ra2.out (by have := HN1.out; omega)).cell 0
      have a4 : W.cell? ⟨bm, 0, none⟩ = some (.int .i64 lq) := r4.cell 0
      have a5 : W.cell? ⟨t + 5, 0, none⟩ = some (.bool true) := r5.cell 0
      have hd1 : W.heap[D1]? = some (.deferred (some [])) := (hb.block D1 (Array.getElem?_eq_some_iff.1 HD2.out).1 (by
        rintro (rfl | rfl)
        · have h1 := HRm.out; unfold Row at h1; rw [HD2.out] at h1; cases h1
        · have h1 := HR5.out; unfold Row at h1; rw [HD2.out] at h1; cases h1)).trans HD2.out
      have HBF := Lib.hid (fun d => below_drewN (HBW2.out _ _ hb (fun k hk => by have := HN1.out; omega)) d)
      clear r4 r5 hb hlq
      go_wp2_with fail
      go_quiet ((go_at_call 22; refine (CL.out _).mono ?_; rintro e w8 ⟨rfl, d, rfl⟩; exact ⟨rfl, _, (World.drewN_drewN _ _ _)⟩))
      go_wp2
      have hne : D1 ≠ D2 := by have := (Array.getElem?_eq_some_iff.1 HD2.out).1; omega
      have hk1 : ∀ o, ((W.drewN nq).putObj D2 o).heap[D1]? = some (.deferred (some [])) := fun o => (World.putObj_heap_other hne).trans hd1
      refine ⟨by simp, .inl ⟨_, _, rfl, run_takeDeferred hd2, ⟨by simp, .inl ⟨_, _, rfl, run_takeDeferred (hk1 _), ?_⟩⟩⟩⟩
      exact ⟨_, results_tmp rfl _ _ _, rfl, ((HBF.out nq).trans (belowK_b (w := w2) HW2.out _ D2 _ _ hD2 hd2 rfl rfl)).trans (belowK_b (w := w1) HW1.out _ D1 _ _ HD.out (hk1 _) rfl rfl)⟩
end Go.Proofs.Ytkoepaagdaconaa
