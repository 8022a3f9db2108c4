/-
  Row of a book.
-/
import Derived.Test.YtkdiibgjkipdnaaWqF
import Derived.Deep.AppendLies
import Derived.Deep.Onto
namespace Go.Proofs.Ytkdiibgjkipdnaa
open Go.RowKit Go.Maps
set_option linter.unusedSimpArgs false

def recs : List Rc → List Value
  | [] => []
  | r :: l => r.cells ++ recs l
theorem recs_len (l : List Rc) : (recs l).length = l.length * 11 := by
  induction l with
  | nil => rfl
  | cons r l ih => simp only [recs, List.length_append, List.length_cons, ih, Rc.cells, List.length_nil]; omega
theorem recs_append (a b : List Rc) : recs (a ++ b) = recs a ++ recs b := by
  induction a with
  | nil => rfl
  | cons r a ih => simp only [List.cons_append, recs, ih, List.append_assoc]
theorem recs_one (r : Rc) : recs [r] = r.cells := by simp [recs]
theorem infoRec : (Try.prog.info? 96).map (fun i => (i.zero, i.size, i.bytes)) = some (some (.agg #[.int .u32 0, .int .u32 0, .int .u32 0, .int .u32 0, .int .u32 0, .int .u32 0, .int .i64 0, .int .i64 0, .int .i64 0, .int .u32 0, .int .u32 0]), 11, 56) := by kernel_rfl
theorem info_parts {P : Program} {t : TypeId} {z : Value} {s b : Nat} (h : (P.info? t).map (fun i => (i.zero, i.size, i.bytes)) = some (some z, s, b)) : ∃ i, P.info? t = some i ∧ i.zero = some z ∧ i.size = s ∧ i.bytes = b := by
  obtain ⟨i, hi, he⟩ := Option.map_eq_some_iff.1 h
  simp only [Prod.mk.injEq] at he
  exact ⟨i, hi, he.1, he.2.1, he.2.2⟩
theorem nxt_at : ∀ {l : List Nd}, (l.map (·.blk)).Nodup → ∀ {j : Nat} {x : Nd}, l[j]? = some x → nxt l x.blk = (l[j + 1]?).map (·.blk)
  | [], _, j, x, h => by simp at h
  | y :: l, hn, 0, x, h => by
    simp at h; subst h
    unfold nxt
    rw [if_pos rfl]
    cases l <;> rfl
  | y :: l, hn, j + 1, x, h => by
    rw [List.map_cons, List.nodup_cons] at hn
    have h : l[j]? = some x := by simpa using h
    unfold nxt
    rw [if_neg (fun e => hn.1 (List.mem_map.2 ⟨x, List.mem_of_getElem? h, e.symm⟩)), nxt_at hn.2 h]
    rfl
theorem inRow_sub (k : Key) (N : List Nd) : (inRow k N).Sublist N := List.filter_sublist
theorem inRow_blks {N : List Nd} (h : (N.map (·.blk)).Nodup) (k : Key) : ((inRow k N).map (·.blk)).Nodup := h.sublist ((inRow_sub k N).map _)
theorem inRow_mem {k : Key} {N : List Nd} {x : Nd} (h : x ∈ inRow k N) : x ∈ N ∧ x.rc.key = k := by
  unfold inRow at h
  rw [List.mem_filter] at h
  exact ⟨h.1, of_decide_eq_true h.2⟩
theorem take_next {α : Type} {ss : List α} {j : Nat} {s : α} (hs : ss[j]? = some s) : ss.take (j + 1) = ss.take j ++ [s] := by rw [List.take_add_one, hs]; rfl
def lenOf : Value → Nat
  | .slice _ n _ => n
  | _ => 0
theorem add_zero' (b j : Nat) : (⟨b, 0, none⟩ : Addr).add j = ⟨b, j, none⟩ := add_zero b j
/-- a list of records that came out, as the call's own -/
def RecsOut (w : World) (l : List Rc) (e : Ending) (w' : World) : Prop := ∃ v, e = .returned v ∧ w'.ownsRow w.heap.size 96 11 v l.length (recs l) ∧ Below w.heap.size w w'
set_option maxHeartbeats 4000000 in
set_option maxRecDepth 100000 in
theorem row_c (bp : Nat) (B : Bk) (k : Key) (w : World) (h : BookAt w bp B) (hk : k.Ok) (hN : B.N.length ≤ 100000) :
    Calls Try.prog 14 #[.pointer (some ⟨bp, 0, none⟩), .agg #[.int .u32 k.s, .int .u32 k.g, .int .i64 k.d]] w (RecsOut w ((inRow k B.N).map (·.rc))) := by
  obtain ⟨i0, hi, hz0, hz1, hz2⟩ := info_parts infoRec
  have hA : Below w.heap.size w (w.alloc (.cells #[.int .u32 k.s, .int .u32 k.g, .int .i64 k.d] 60)) := (Below.refl _ _).alloc (Nat.le_refl _) _
  have hR := Row.new w 60 [.int .u32 k.s, .int .u32 k.g, .int .i64 k.d]
  change Row (w.alloc (.cells #[.int .u32 k.s, .int .u32 k.g, .int .i64 k.d] 60)) _ _ _ at hR
  have r0 := hR.cell 0
  have r1 := hR.cell 1
  have r2 := hR.cell 2
  dsimp only [List.getElem?_cons_zero, List.getElem?_cons_succ] at r0 r1 r2
  have h1 := h.below hA
  have HA := Lib.hid hA
  have H1 := Lib.hid h1
  obtain ⟨c0, _⟩ := h1.fields
  have HL : Hid (∀ d, (Instr.lookup 70 (.map (some B.mp)) (.agg #[.int .u32 k.s, .int .u32 k.g, .int .i64 k.d]) false).run Try.prog ((w.alloc (.cells #[.int .u32 k.s, .int .u32 k.g, .int .i64 k.d] 60)).drewN d) = .ok (pt (rowOf B.N k)) ((w.alloc (.cells #[.int .u32 k.s, .int .u32 k.g, .int .i64 k.d] 60)).drewN d)) :=
    Lib.hid fun d => ((h1.below (below_drewN (Below.refl _ _) d)).mem.map).find hk
  have HLL : Hid ((inRow k B.N).length ≤ 100000) := Lib.hid (Nat.le_trans (inRow_sub k B.N).length_le hN)
  clear h h1 hA hR hN
  cases hf : (inRow k B.N).head? with
  | none =>
    have hro : rowOf B.N k = none := by unfold rowOf; rw [hf]; rfl
    have HE : Hid (inRow k B.N = []) := Lib.hid (List.head?_eq_none_iff.1 hf)
    rw [hro] at HL
    clear hf hro
    go_enter Try.func14, Try.ntmps14
    go_wp2_with fail
    generalize w.alloc (.cells #[.int .u32 k.s, .int .u32 k.g, .int .i64 k.d] 60) = w1 at *
    have hl := HL.out
    simp only [pt] at hl
    have hl0 := hl 0
    rw [World.drewN_zero] at hl0
    clear HL
    go_quiet (fail)
    have HB2 := Lib.hid (below_drewN HA.out nq)
    clear hl hl0 HA
    go_wp2_with fail
    go_ret
    refine ⟨_, rfl, ?_, HB2.out⟩
    rw [HE.out]
    exact World.ownsRow_nil _ _ _ _
  | some x =>
    obtain ⟨hx, hxk⟩ := head_row hf
    have hro : rowOf B.N k = some x.rb := by unfold rowOf; rw [hf]; rfl
    rw [hro] at HL
    have b0 := (H1.out.mem.row x hx).cell 0
    rw [hxk, hf] at b0
    obtain ⟨l, hl0⟩ : ∃ l, inRow k B.N = l := ⟨_, rfl⟩
    have HNX : Hid (∀ (j : Nat) (y : Nd), l[j]? = some y → y ∈ B.N ∧ nxt (inRow y.rc.key B.N) y.blk = (l[j + 1]?).map (·.blk)) := Lib.hid (fun j y hy => by
      rw [← hl0] at hy ⊢
      obtain ⟨h1, h2⟩ := inRow_mem (List.mem_of_getElem? hy)
      exact ⟨h1, by rw [h2]; exact nxt_at (inRow_blks H1.out.ok.blks k) hy⟩)
    rw [hl0] at HLL hf ⊢
    have HH : Hid (l[0]? = some x) := Lib.hid (by rw [← List.head?_eq_getElem?]; exact hf)
    obtain ⟨xb, xrb, xr, xs⟩ := x
    simp only [pt, Option.map_some, List.getElem?_cons_zero] at b0
    have hll := HLL.out
    obtain ⟨L, hL⟩ : ∃ L, l.length = L := ⟨_, rfl⟩
    rw [hL] at hll
    have HLE := Lib.hid hL
    clear hx hxk hf hro hl0 hL
    go_enter Try.func14, Try.ntmps14
    go_wp2_with fail
    generalize w.alloc (.cells #[.int .u32 k.s, .int .u32 k.g, .int .i64 k.d] 60) = w1 at *
    have hl := HL.out
    simp only [pt] at hl
    have hl0 := hl 0
    rw [World.drewN_zero] at hl0
    clear HL
    go_quiet (fail)
    go_wp2_with fail
    have HB2 := Lib.hid (below_drewN HA.out nq)
    have H2 := Lib.hid (H1.out.below (below_drewN (Below.refl _ w1) nq))
    have hlq := fun d => hl (nq + d)
    simp only [← World.drewN_drewN] at hlq
    have hlq0 := hlq 0
    rw [World.drewN_zero] at hlq0
    have b0 : (w1.drewN nq).cell? ⟨xrb, 0, none⟩ = _ := b0
    have c0 : (w1.drewN nq).cell? ⟨bp, 0, none⟩ = _ := c0
    have r0 : (w1.drewN nq).cell? ⟨w.heap.size, 0, none⟩ = _ := r0
    have r1 : (w1.drewN nq).cell? ⟨w.heap.size, 1, none⟩ = _ := r1
    have r2 : (w1.drewN nq).cell? ⟨w.heap.size, 2, none⟩ = _ := r2
    clear HA hl0 hl H1
    generalize w1.drewN nq = wq at *
    go_quiet (fail)
    have HB3 := Lib.hid (below_drewN HB2.out nq)
    have H3 := Lib.hid (H2.out.below (below_drewN (Below.refl _ wq) nq))
    clear hlq hlq0 b0 c0 r0 r1 r2 HB2 H2
    generalize wq.drewN nq = w3 at *
    go_wp2_with fail
    go_loopw [5, 6] (fun v cur wr => ∃ j : Nat, j ≤ L ∧ cur = pt ((l[j]?).map (·.blk)) ∧ wr.ownsRow w3.heap.size 96 11 v j (recs ((l.map (·.rc)).take j)) ∧ Below w3.heap.size w3 wr) (fun v _ _ => L - lenOf v)
    case atStart => exact ⟨0, by omega, by rw [HH.out]; rfl, World.ownsRow_nil _ _ _ _, Below.refl _ _⟩
    case round =>
      obtain ⟨j, hj, rfl, hown, hb⟩ := hrel
      have hvl : ∃ A c, u5 = .slice A j c := by obtain ⟨A, c, e, _⟩ := own_form hown; exact ⟨A, c, e⟩
      obtain ⟨A5, c5, rfl⟩ := hvl
      by_cases hjl : j < L
      · obtain ⟨y, hy⟩ : ∃ y, l[j]? = some y := ⟨_, List.getElem?_eq_getElem (by rw [HLE.out]; exact hjl)⟩
        obtain ⟨hyN, hyn⟩ := HNX.out j y hy
        have hrow := (H3.out.below hb).mem.node y hyN
        rw [hyn] at hrow
        obtain ⟨a0, a1, a2, a3, a4, a5, a6, a7, a8, a9, a10, a11, a12, a13⟩ := Nd.at_ hrow
        have HTK : Hid (recs ((l.map (·.rc)).take (j + 1)) = recs ((l.map (·.rc)).take j) ++ y.rc.cells) := Lib.hid (by rw [take_next (s := y.rc) (by rw [List.getElem?_map, hy]; rfl), recs_append, recs_one])
        have hyw : y.blk < w3.heap.size := (H3.out.mem.node _ hyN).lt
        rw [hy]
        obtain ⟨yb, yrb, yr, ys⟩ := y
        obtain ⟨q0, q1, q2, q3, q4, q5, q6, q7, q8, q9, q10⟩ := yr
        simp only [Rc.cells] at HTK
        simp only [pt, Option.map_some] at a0 a1 a2 a3 a4 a5 a6 a7 a8 a9 a10 a11 a12 hyw ⊢
        obtain ⟨nx, hnx⟩ : ∃ nx, pt ((l[j + 1]?).map (·.blk)) = nx := ⟨_, rfl⟩
        rw [hnx] at a13
        have HNP := Lib.hid hnx
        have HO := Lib.hid hown
        have HB := Lib.hid hb
        have hsz : w3.heap.size ≤ wr.heap.size := hb.size
        clear hy hyN hyn hrow hown hb hnx
        go_wp2_with (first
          | (at_builtin; refine wpList_append_own _ rfl _ _ 56 rfl w3.heap.size 96 i0 (.agg #[.int .u32 0, .int .u32 0, .int .u32 0, .int .u32 0, .int .u32 0, .int .u32 0, .int .i64 0, .int .i64 0, .int .i64 0, .int .u32 0, .int .u32 0]) 11 56 Try.underlying56 hi hz0 hz1 hz2 rfl (by decide) _ j (recs ((l.map (·.rc)).take j)) rfl (World.ownsRow.alloc HO.out _) ⟨wr.heap.size, 0, none⟩ 1 1 [.int .u32 q0, .int .u32 q1, .int .u32 q2, .int .u32 q3, .int .u32 q4, .int .u32 q5, .int .i64 q6, .int .i64 q7, .int .i64 q8, .int .u32 q9, .int .u32 q10] rfl rfl ?c1 ?c2 ?c3 ?c4 ?c5 ?_)
          | go_in)
        case c2 => first | (intro u hu; simp at hu; rcases hu with rfl | rfl | rfl | rfl | rfl | rfl | rfl | rfl | rfl | rfl | rfl <;> rfl) | simp [Value.oneCell']
        case c3 => unfold maxLen; omega
        case c4 => omega
        case c5 => first | omega | (simp; omega)
        intro v' w5 hown' hgrow _
        have hgr : wr.grownBy w5 (Value.slice A5 j c5).ownBlock := (World.grownBy_alloc wr _ _).trans hgrow
        have HB5 : Hid (Below w3.heap.size w3 w5) := Lib.hid (HB.out.grown hgr hsz (fun q e => (HO.out.lt q e).1))
        have HO5 := Lib.hid hown'
        have hvl : ∃ A c, v' = .slice A (j + 1) c := by obtain ⟨A, c, e, _⟩ := own_form hown'; exact ⟨A, c, e⟩
        obtain ⟨A6, c6, rfl⟩ := hvl
        have b13 : w5.cell? ⟨yb, 13, none⟩ = some nx := (HB5.out.cell (p := ⟨yb, 13, none⟩) hyw).trans ((HB.out.cell (p := ⟨yb, 13, none⟩) hyw).symm.trans a13)
        clear hown' hgrow hgr a0 a1 a2 a3 a4 a5 a6 a7 a8 a9 a10 a11 a12 a13
        go_wp2_with fail
        go_roundw
        case rel =>
          refine ⟨j + 1, by omega, HNP.out.symm, ?_, HB5.out⟩
          rw [HTK.out]
          exact HO5.out
        case measure => simp [lenOf] <;> omega
      · have hjn : l[j]? = none := List.getElem?_eq_none (by rw [HLE.out]; omega)
        have hall : (l.map (·.rc)).take j = l.map (·.rc) := List.take_of_length_le (by rw [List.length_map, HLE.out]; omega)
        rw [hall] at hown
        have HO : Hid (wr.ownsRow w.heap.size 96 11 (.slice A5 j c5) j (recs (l.map (·.rc)))) := Lib.hid (hown.mono HB3.out.size)
        have HB : Hid (Below w.heap.size w wr) := Lib.hid (HB3.out.trans (hb.mono HB3.out.size))
        have hjL : j = L := by omega
        have HJ := Lib.hid hjL
        rw [hjn]
        simp only [Option.map_none, pt]
        clear hown hb hjn hall hjL
        go_wp2_with fail
        go_ret
        refine ⟨_, rfl, ?_, HB.out⟩
        rw [List.length_map, HLE.out, ← HJ.out]
        exact HO.out
end Go.Proofs.Ytkdiibgjkipdnaa
