/-
  tally.Groups (under way: the first loop).
-/
import Derived.Test.YtfiimmbpfdpjfaaSumF
import Derived.Test.YtfiimmbpfdpjfaaSumH
import Derived.Test.YtfiimmbpfdpjfaaIterT
import Derived.Maps.OwnSet
import Derived.Deep.AppendLies
namespace Go.Proofs.Ytfiimmbpfdpjfaa
open Go.RowKit Go.Maps Go.WideMaps
set_option linter.unusedSimpArgs false

theorem named_next {ss : List St} {j : Nat} {s : St} (hs : ss[j]? = some s) : (fun nm => named nm (ss.take (j + 1))) = fun nm => if nm = s.fn then named s.fn (ss.take j) ++ [s] else named nm (ss.take j) := by
  funext nm
  unfold named
  rw [take_next hs, List.filter_append]
  by_cases e : nm = s.fn
  · subst e; rw [if_pos rfl]; simp
  · rw [if_neg e]
    have : decide (s.fn = nm) = false := decide_eq_false fun h => e h.symm
    simp [this]
theorem zeroStats (w : World) : (zeroValue 22).run Try.prog w = .ok (.slice none 0 0) w := by kernel_rfl
theorem named_cells (pre : List St) (s : St) : sts (pre ++ [s]) = sts pre ++ s.cells := by rw [sts_append, sts_single]
theorem field_be (a : ByteArray) (b c : Int) (d e f g : Nat) (w : World) : (Instr.field 28 (.agg #[.string a, .int .i64 b, .int .i64 c, .float .f64 d, .float .f64 e, .float .f64 f, .float .f64 g]) 3).run Try.prog w = .ok (.float .f64 d) w := by kernel_rfl
theorem own_set_ne {w : World} {base e size n b o : Nat} {v x : Value} {xs : List Value} (h : w.ownsRow base e size v n xs) (hb : v.ownBlock ≠ some b) : (w.setCell ⟨b, o, none⟩ x).ownsRow base e size v n xs := by
  refine h.kept (row := some b) ⟨rfl, rfl, rfl, by simp [World.setCell], fun k _ hk => Below.heap_setCell w _ x k (fun e => hk (by rw [e]))⟩ ?_
  cases hv : v.ownBlock with
  | none => exact .inl rfl
  | some g => right; intro e; exact hb (by rw [hv, e])
theorem strKeys_len {D : DataW Value} (h : Tidy D) : (strKeys D).length = Maps.size D := by
  obtain ⟨es, rfl, _⟩ := h
  show (es.map fun p => strOf p.1).length = es.length
  simp
/-- a slice of names that the call owns -/
theorem own_names {w : World} {base e : Nat} {v : Value} {ns : List ByteArray} (h : w.ownsRow base e 1 v ns.length (ns.map Value.string)) :
    ∃ A c, v = .slice A ns.length c ∧ ∀ i nm, ns[i]? = some nm → ∃ ad, A = some ad ∧ w.cell? (ad.add i) = some (.string nm) := by
  rcases h.2 with ⟨e1, e2⟩ | ⟨g, cap, cur, e1, _⟩
  · refine ⟨none, 0, by rw [e1, e2], fun i nm hi => ?_⟩
    have := (List.getElem?_eq_some_iff.1 hi).1
    omega
  · refine ⟨_, cap, e1, fun i nm hi => ⟨_, rfl, ?_⟩⟩
    subst e1
    have hlt := (List.getElem?_eq_some_iff.1 hi).1
    rw [add_zero, h.cellAt _ (by omega), List.getElem?_map, hi]
    rfl
set_option maxHeartbeats 4000000 in
set_option maxRecDepth 100000 in
theorem groups_c (A : Option Addr) (n c : Nat) (ss : List St) (w : World) (h : Ss w A n ss) (hn : n ≤ 1000) (hz : ∀ s ∈ ss, s.fn.size ≤ maxLen) :
    Calls Try.prog 12 #[.slice A n c] w fun e w' => ∃ v ns, e = .returned v ∧ Names ss ns ∧ ns.length ≤ 1000 ∧ w'.ownsRow w.heap.size 28 7 v ns.length (sms (groupsL ss ns)) ∧ Below w.heap.size w w' := by
  obtain ⟨i0, hi, hz0, hz1, hz2⟩ := info_parts infoS
  obtain ⟨k0, hki, hkz0, hkz1, hkz2⟩ := info_parts infoSum
  have hmm := @run_makeMap Try.prog
  have hfld := field_be
  have HS := Lib.hid h
  have HZ := Lib.hid hz
  have C1 := Lib.hid (of_c A n c ss w h hn)
  obtain ⟨S, hS⟩ : ∃ S, ofS ss = S := ⟨_, rfl⟩
  have HSB : Hid (S.be = sumV (valuesV ss 1)) := Lib.hid (by rw [← hS]; rfl)
  rw [hS] at C1
  obtain ⟨v0, v1, v2, v3, v4, v5, v6⟩ := S
  simp only [Sm.agg, Sm.cells] at C1
  clear h hz hS
  go_enter Try.func12, Try.ntmps12
  go_wp2_with fail
  refine C1.out.mono ?_
  rintro e w1 ⟨rfl, hb1⟩
  have HB1 := Lib.hid hb1
  have hs1 : w.heap.size ≤ w1.heap.size := hb1.size
  clear hb1 C1
  go_wp2_with fail
  have G0 := Grp.made 9 w1
  have B0 := HB1.out.alloc hs1 (.map #[] 0)
  have hsz0 : (w1.alloc (.map #[] 0)).heap.size = w1.heap.size + 1 := by simp
  generalize w1.alloc (.map #[] 0) = w2 at *
  obtain ⟨b, hb⟩ : ∃ b, w1.heap.size = b := ⟨_, rfl⟩
  rw [hb] at G0 hsz0 hs1 ⊢
  have HG0 := Lib.hid G0
  have HB0 := Lib.hid B0
  clear G0 B0 hb HB1
  go_loopw [6, 17] (fun _ a wr => ∃ j : Nat, j ≤ n ∧ a = .int .i64 j ∧ (∃ D h, Grp 9 wr b j D h fun nm => named nm (ss.take j)) ∧ Below w.heap.size w wr ∧ b + 1 ≤ wr.heap.size) (fun _ a _ => n - (intOf a).toNat)
  case atStart => exact ⟨0, by omega, rfl, ⟨_, _, HG0.out⟩, HB0.out, by omega⟩
  case round =>
    obtain ⟨j, hj, rfl, ⟨D, hd, hG⟩, hB, hsz⟩ := hrel
    clear HG0 HB0
    by_cases hlt : j < n
    · have d0 : decide ((j : Int) < (n : Int)) = true := decide_eq_true (by omega)
      obtain ⟨s, hs⟩ : ∃ s, ss[j]? = some s := ⟨_, List.getElem?_eq_getElem (by rw [HS.out.len]; exact hlt)⟩
      obtain ⟨ad, hA, hcell⟩ := (HS.out.below hB).cs (by rw [sts_len, HS.out.len]; omega)
      obtain ⟨ae, hae⟩ : ∃ ae, ad.add (j * 7) = ae := ⟨_, rfl⟩
      obtain ⟨a0, a1, a2, a3, a4, a5, a6⟩ := st_at hcell hs hae
      have HNX := Lib.hid (named_next hs)
      have hks : keyOf Try.prog 9 (.string s.fn) = some (strL s.fn) := keyOf_string_mk Try.underlying9 (HZ.out s (List.mem_of_getElem? hs))
      have HK := Lib.hid hks
      have HG := Lib.hid hG
      have HB := Lib.hid hB
      have j0 : (0 : Int) ≤ (j : Int) := by omega
      obtain ⟨x0, x1, x2, x3, x4, x5, x6⟩ := s
      subst hA
      clear hG hB hcell hs hks
      go_upto_block 1 with fail
      go_cut [] from 19 to 31 (fun wx => (∃ D h, Grp 9 wx b (j + 1) D h fun nm => named nm (ss.take (j + 1))) ∧ Below w.heap.size w wx ∧ b + 1 ≤ wx.heap.size)
      case first =>
        go_upto_region 6 with fail
        have hRB := Row.new wr 38 [.int .i64 x0, .string x1, .int .i64 x2, .int .i64 x3, .int .i64 x4, .int .i64 x5, .bool x6]
        change Row (wr.alloc (Obj.cells #[.int .i64 x0, .string x1, .int .i64 x2, .int .i64 x3, .int .i64 x4, .int .i64 x5, .bool x6] 38)) _ _ _ at hRB
        have hBQ := (Below.refl wr.heap.size wr).alloc (Nat.le_refl _) (Obj.cells #[.int .i64 x0, .string x1, .int .i64 x2, .int .i64 x3, .int .i64 x4, .int .i64 x5, .bool x6] 38)
        have hszq : (wr.alloc (Obj.cells #[.int .i64 x0, .string x1, .int .i64 x2, .int .i64 x3, .int .i64 x4, .int .i64 x5, .bool x6] 38)).heap.size = wr.heap.size + 1 := by simp
        generalize wr.alloc (Obj.cells #[.int .i64 x0, .string x1, .int .i64 x2, .int .i64 x3, .int .i64 x4, .int .i64 x5, .bool x6] 38) = wq at *
        obtain ⟨gs, hgs⟩ : ∃ gs, wr.heap.size = gs := ⟨_, rfl⟩
        have hrl : ∀ k, (hd x1).ownBlock = some k → k < wr.heap.size := fun k hk => ((HG.out.row x1).lt k hk).2
        have HGQ := Lib.hid (HG.out.kept hBQ)
        have HBQ : Hid (Below w.heap.size w wq) := Lib.hid (HB.out.trans (hBQ.mono (by omega)))
        rw [hgs] at hRB hszq hsz hrl ⊢
        have HRL := Lib.hid hrl
        have hgl : gs < wq.heap.size := by omega
        clear hrl
        have hb2 : b + 1 ≤ wq.heap.size := by omega
        clear hBQ hgs HG HB hszq
        obtain ⟨⟨c0, c1, c2, c3, c4, c5, c6⟩, _⟩ := hRB.at7
        have HRB := Lib.hid hRB
        clear hRB
        have hl1 : ∀ d, (Instr.lookup 47 (.map (some b)) (.string x1) false).run Try.prog (wq.drewN d) = .ok (hd x1) (wq.drewN d) := fun d => (HGQ.out.kept (below_drewN (Below.refl _ wq) d)).find Try.underlying9 Try.underlying47 (zeroStats _) HK.out
        have hl2 : (Instr.lookup 47 (.map (some b)) (.string x1) false).run Try.prog wq.drew = .ok (hd x1) wq.drew := hl1 1
        have hl3 : ∀ o, (Instr.lookup 47 (.map (some b)) (.string x1) false).run Try.prog (wq.alloc o).drew = .ok (hd x1) (wq.alloc o).drew := fun o => (HGQ.out.kept ((Below.refl _ wq).alloc (Nat.le_refl _) o).drew).find Try.underlying9 Try.underlying47 (zeroStats _) HK.out
        clear hl1
        have HRow := Lib.hid (HGQ.out.row x1)
        obtain ⟨v, hv⟩ : ∃ v, hd x1 = v := ⟨_, rfl⟩
        rw [hv] at hl2 hl3 HRow
        have HV := Lib.hid hv
        obtain ⟨pre, hpre⟩ : ∃ pre, named x1 (ss.take j) = pre := ⟨_, rfl⟩
        have hpl : pre.length ≤ j := by rw [← hpre]; exact Nat.le_trans (named_len _ _) (by rw [List.length_take]; omega)
        have HRow : Hid (wq.ownsRow (b + 1) 38 7 v pre.length (sts pre)) := Lib.hid (by rw [← hpre]; exact HRow.out)
        have HPRE := Lib.hid hpre
        have HK1 : Hid (keyOf Try.prog 9 (.string x1) = some (strL x1)) := Lib.hid HK.out
        have HNP : Hid (∀ nm, named nm (ss.take (j + 1)) = if nm = x1 then pre ++ [⟨x0, x1, x2, x3, x4, x5, x6⟩] else named nm (ss.take j)) := Lib.hid (fun nm => by have := congrFun HNX.out nm; simp only at this; rw [this, hpre])
        have HAL : Hid (∀ o, wq.grownBy (wq.alloc o).drew v.ownBlock ∧ (wq.alloc o).drew.ownsRow (b + 1) 38 7 v pre.length (sts pre)) := Lib.hid (fun o => ⟨⟨(World.grownBy_alloc wq o v.ownBlock).os, (World.grownBy_alloc wq o v.ownBlock).tape, (World.grownBy_alloc wq o v.ownBlock).output, (World.grownBy_alloc wq o v.ownBlock).size, (World.grownBy_alloc wq o v.ownBlock).block⟩, World.ownsRow.drew (World.ownsRow.alloc HRow.out o)⟩)
        have NA : Hid (∀ (j : Nat) (u : Value), ([.int .i64 x0, .string x1, .int .i64 x2, .int .i64 x3, .int .i64 x4, .int .i64 x5, .bool x6] : List Value)[j]? = some u → (wq.alloc (Obj.cells #[.int .i64 x0, .string x1, .int .i64 x2, .int .i64 x3, .int .i64 x4, .int .i64 x5, .bool x6] 38)).drew.cell? ((⟨wq.heap.size, 0, none⟩ : Addr).add j) = some u) := Lib.hid (fun j u hu => World.news_of_block (w := wq.alloc (Obj.cells #[.int .i64 x0, .string x1, .int .i64 x2, .int .i64 x3, .int .i64 x4, .int .i64 x5, .bool x6] 38)) (cs := #[.int .i64 x0, .string x1, .int .i64 x2, .int .i64 x3, .int .i64 x4, .int .i64 x5, .bool x6]) (t := 38) (fr := (0, 0)) (heap_alloc_new wq _) j u hu)
        clear hv hpre
        go_region_held3 (fun w' => w'.cell? ⟨gs, 0, none⟩ = some (.int .i64 x0) ∧ w'.cell? ⟨gs, 1, none⟩ = some (.string x1) ∧ w'.cell? ⟨gs, 2, none⟩ = some (.int .i64 x2) ∧ w'.cell? ⟨gs, 3, none⟩ = some (.int .i64 x3) ∧ w'.cell? ⟨gs, 4, none⟩ = some (.int .i64 x4) ∧ w'.cell? ⟨gs, 5, none⟩ = some (.int .i64 x5) ∧ w'.cell? ⟨gs, 6, none⟩ = some (.bool x6)) (go_keep)
          ((refine step_append_lies _ (by rfl) _ _ _ (by rfl) (b + 1) 38 i0 (.agg #[.int .i64 0, .string ByteArray.empty, .int .i64 0, .int .i64 0, .int .i64 0, .int .i64 0, .bool false]) 7 64 Try.underlying22 hi hz0 hz1 hz2 (by rfl) (by decide) v pre.length (sts pre) (by rfl) (HAL.out _).2 ⟨wq.heap.size, 0, none⟩ 1 1 [.int .i64 x0, .string x1, .int .i64 x2, .int .i64 x3, .int .i64 x4, .int .i64 x5, .bool x6] (by rfl) (by rfl) NA.out (by simp [Value.oneCell']) (by omega) (by unfold maxLen; omega) (by omega) (by simp; omega) (wq.heap.size + 1) (by simp) ?_; intro g cap w5 ho5 hg5 hl5 hlt5
            have hg5' : wq.grownBy w5 v.ownBlock := ((HAL.out _).1).trans hg5
            obtain ⟨w6, hr6, hg6, G6⟩ := HGQ.out.step (s := x1) (x := ⟨x0, x1, x2, x3, x4, x5, x6⟩) (v' := .slice (some ⟨g, 0, none⟩) (pre.length + 1) cap) Try.underlying9 Try.underlying47 (by unfold maxLen; omega) HK1.out (by rw [HV.out]; exact hg5') (by rw [HPRE.out, named_cells]; exact ho5) (by rw [HV.out]; exact hl5.elim (fun e => .inl e.symm) (fun e => .inr ⟨g, rfl, by omega⟩))
            have hR5 : Row w5 gs 38 [.int .i64 x0, .string x1, .int .i64 x2, .int .i64 x3, .int .i64 x4, .int .i64 x5, .bool x6] := (hg5'.block gs HRB.out.lt (fun e => by have := HRL.out gs (by rw [HV.out]; exact e.symm); omega)).trans HRB.out
            obtain ⟨⟨e0, e1, e2, e3, e4, e5, e6⟩, _⟩ := hR5.at7
            have hR6 := (hg6.block gs hR5.lt (fun e => by have := Option.some.inj e; omega)).trans hR5
            obtain ⟨⟨k0, k1, k2, k3, k4, k5, k6⟩, _⟩ := Row.at7 (w := w6) (b := gs) (e := 38) hR6
            have HR5 := Lib.hid hR5
            have HG6 := Lib.hid G6
            have HW6 := Lib.hid hg6
            have HW5 := Lib.hid hg5'
            clear ho5 hg5 hl5 hlt5 hg5' hg6 G6 hR5 hR6))
        all_goals (
          go_wp2_with fail
          go_meet
          case rel =>
            have hvk : ∀ k, v.ownBlock = some k → b + 1 ≤ k := fun k hk => (HRow.out.lt k hk).1
            have hB5 : Below w.heap.size w w5 := HBQ.out.grown HW5.out (by omega) (fun k e => by have := hvk k e; omega)
            have e : (fun nm => named nm (ss.take (j + 1))) = fun nm => if nm = x1 then pre ++ [⟨x0, x1, x2, x3, x4, x5, x6⟩] else named nm (ss.take j) := funext HNP.out
            have h6 := HG6.out
            have e2 : (fun y => if y = x1 then (fun nm => named nm (ss.take j)) x1 ++ [⟨x0, x1, x2, x3, x4, x5, x6⟩] else (fun nm => named nm (ss.take j)) y) = fun nm => named nm (ss.take (j + 1)) := by rw [e]; funext nm; rw [← HPRE.out]
            rw [e2] at h6
            refine ⟨⟨_, _, h6⟩, hB5.grown HW6.out (by have := hB5.size; omega) (fun k e => by have := Option.some.inj e; omega), by have := HW5.out.size; have := HW6.out.size; omega⟩)
      case rest =>
        obtain ⟨hG, hB, hsz⟩ := hcut
        go_wp2_with fail
        go_roundw
        case rel => exact ⟨j + 1, by omega, by go_num, hG, hB, hsz⟩
        case measure => simp [intOf] <;> omega
    · have hjn : j = n := by omega
      subst hjn
      rw [List.take_of_length_le (Nat.le_of_eq HS.out.len)] at hG
      have HG := Lib.hid hG
      have HB := Lib.hid hB
      have d0 : decide ((j : Int) < (j : Int)) = false := decide_eq_false (by omega)
      have hsd := hG.own.size_le
      clear hG hB
      go_wp2_with fail
      refine (callsIn_wide.1 (Try.maps_Keys_21 _ _)).mono ?_
      rintro e wk ⟨rfl, rfl⟩
      go_wp2_with fail
      refine (callsIn_wide.1 (Try.slices_Sorted_keys_20_21 b j D heldV wr HG.out.own (by unfold maxLen; omega) (by omega))).mono ?_
      rintro e w3 ⟨vk, ks, rfl, hperm, hrow, hnil, hb3⟩
      have hsK : (wr.alloc (.cells #[.map (some b)] 47)).heap.size = wr.heap.size + 1 := by simp
      have hbK : Below wr.heap.size wr (wr.alloc (.cells #[.map (some b)] 47)) := (Below.refl _ _).alloc (Nat.le_refl _) _
      have hb3' : Below wr.heap.size wr w3 := hbK.trans (hb3.mono (by rw [hsK]; omega))
      have hs3 : wr.heap.size + 1 ≤ w3.heap.size := by have := hb3.size; omega
      have HGQ := Lib.hid (HG.out.kept hb3')
      have HBQ : Hid (Below w.heap.size w w3) := Lib.hid (HB.out.trans (hb3'.mono (by omega)))
      have hNM := names_of_keys HG.out Try.underlying9 hperm
      have hsl : ks.length ≤ j := by rw [hperm.length_eq, strKeys_len HG.out.tidy]; exact hsd
      obtain ⟨ns, hns⟩ : ∃ ns, (ks.mergeSort leB).map bytesOf = ns := ⟨_, rfl⟩
      have hlen : ns.length = ks.length := by rw [← hns]; simp
      have hrow' : w3.ownsRow (wr.alloc (.cells #[.map (some b)] 47)).heap.size 9 1 vk ns.length (ns.map Value.string) := by
        rw [hlen, ← hns, List.map_map]
        exact hrow
      rw [hns] at hNM
      obtain ⟨A3, c3, rfl, hcn⟩ := own_names hrow'
      have HNM := Lib.hid hNM
      have HCN := Lib.hid hcn
      have hnj : ns.length ≤ j := by omega
      obtain ⟨N, hN⟩ : ∃ N, ns.length = N := ⟨_, rfl⟩
      rw [hN] at hnj ⊢
      have HN := Lib.hid hN
      have hws : w.heap.size ≤ w3.heap.size := HBQ.out.size
      clear hperm hrow hnil hb3 hb3' hbK hsK hNM hns hlen hrow' hcn hN hsl HG HB hsd
      go_wp2_with fail
      go_loopw [7, 36] (fun v i wx => ∃ k : Nat, k ≤ N ∧ i = .int .i64 k ∧ wx.ownsRow w3.heap.size 28 7 v k (sms (groupsL ss (ns.take k))) ∧ Below w3.heap.size w3 wx) (fun _ i _ => N - (intOf i).toNat)
      case atStart => exact ⟨0, by omega, rfl, World.ownsRow_nil _ _ _ _, Below.refl _ _⟩
      case round =>
        obtain ⟨k, hk, rfl, hown, hbx⟩ := hrel
        by_cases hlt : k < N
        · obtain ⟨nm, hnm⟩ : ∃ nm, ns[k]? = some nm := ⟨_, List.getElem?_eq_getElem (by rw [HN.out]; exact hlt)⟩
          obtain ⟨ad3, hA3, hc3⟩ := HCN.out k nm hnm
          have hcx : wr.cell? (ad3.add k) = some (.string nm) := by rw [hbx.cell (p := ad3.add k) (cell_lt hc3)]; exact hc3
          have hmem := (HNM.out.mem nm).1 (List.mem_of_getElem? hnm)
          have hks : keyOf Try.prog 9 (.string nm) = some (strL nm) := by
            obtain ⟨s, hs1, hs2⟩ := hmem
            exact keyOf_string_mk Try.underlying9 (hs2 ▸ HZ.out s hs1)
          have HGX := Lib.hid (HGQ.out.kept hbx)
          have hlk : (Instr.lookup 47 (.map (some b)) (.string nm) false).run Try.prog wr = .ok (hd nm) wr := HGX.out.find Try.underlying9 Try.underlying47 (zeroStats _) hks
          obtain ⟨A4, c4, hv4, hS4⟩ := owned_ss (HGX.out.row nm)
          rw [hv4] at hlk
          have hm4 : (named nm ss).length ≤ 1000 := Nat.le_trans (named_len _ _) (by rw [HS.out.len]; exact hn)
          have CN := Lib.hid (tsum_c' A4 (named nm ss).length c4 (named nm ss) wr hS4 hm4)
          obtain ⟨m4, hme4⟩ : ∃ m4, (named nm ss).length = m4 := ⟨_, rfl⟩
          rw [hme4] at CN hlk
          obtain ⟨S2, hS2⟩ : ∃ S2, sumS (named nm ss) ByteArray.empty 0 = S2 := ⟨_, rfl⟩
          rw [hS2] at CN
          have HS2 := Lib.hid hS2
          obtain ⟨x0, x1, x2, x3, x4, x5, x6⟩ := S2
          simp only [Sm.agg, Sm.cells] at CN
          have HNK := Lib.hid hnm
          have HO := Lib.hid hown
          have HBX := Lib.hid hbx
          have kn0 : (0 : Int) ≤ (k : Int) := by omega
          have d1 : decide ((k : Int) < (N : Int)) = true := decide_eq_true (by omega)
          subst hA3
          clear hnm hc3 hmem hks hv4 hS4 hm4 hme4 hS2 hown hbx
          go_wp2_with fail
          refine CN.out.mono ?_
          rintro e w4 ⟨rfl, hb4⟩
          have HB4 : Hid (Below w3.heap.size w3 w4) := Lib.hid (HBX.out.trans (hb4.mono HBX.out.size))
          have HO4 := Lib.hid (own_below HO.out hb4)
          have hs4 : w3.heap.size ≤ w4.heap.size := HB4.out.size
          clear hb4 HO HBX hcx hlk CN
          have hRA := Row.new w4 28 [.string x0, .int .i64 x1, .int .i64 x2, .float .f64 x3, .float .f64 x4, .float .f64 x5, .float .f64 x6]
          change Row (w4.alloc (Obj.cells #[.string x0, .int .i64 x1, .int .i64 x2, .float .f64 x3, .float .f64 x4, .float .f64 x5, .float .f64 x6] 28)) _ _ _ at hRA
          have HRA := Lib.hid hRA
          have HBA := Lib.hid (HB4.out.alloc hs4 (Obj.cells #[.string x0, .int .i64 x1, .int .i64 x2, .float .f64 x3, .float .f64 x4, .float .f64 x5, .float .f64 x6] 28))
          have HOA := Lib.hid (World.ownsRow.alloc HO4.out (Obj.cells #[.string x0, .int .i64 x1, .int .i64 x2, .float .f64 x3, .float .f64 x4, .float .f64 x5, .float .f64 x6] 28))
          clear hRA
          go_upto_region 13 with fail
          generalize w4.alloc (Obj.cells #[.string x0, .int .i64 x1, .int .i64 x2, .float .f64 x3, .float .f64 x4, .float .f64 x5, .float .f64 x6] 28) = w5 at *
          obtain ⟨bo, hbo⟩ : ∃ bo, w4.heap.size = bo := ⟨_, rfl⟩
          have HVB : Hid (u7.ownBlock ≠ some bo) := Lib.hid (fun e => by have := (HO4.out.lt bo e).2; omega)
          rw [hbo] at HRA hs4 ⊢
          clear hbo HB4 HO4
          obtain ⟨⟨b0, b1, b2, b3, b4, b5, b6⟩, f0, f1, f2, f3, f4, f5, f6⟩ := HRA.out.at7
          have HR6 : Hid (Row (w5.setCell ⟨bo, 0, none⟩ (.string nm)) bo 28 [.string nm, .int .i64 x1, .int .i64 x2, .float .f64 x3, .float .f64 x4, .float .f64 x5, .float .f64 x6]) := Lib.hid (HRA.out.set 0 (.string nm))
          have HB6 := Lib.hid (HBA.out.setCell (p := ⟨bo, 0, none⟩) (by show w3.heap.size ≤ bo; omega) (.string nm))
          have HO6 := Lib.hid (own_set_ne (o := 0) (x := .string nm) HOA.out HVB.out)
          go_upto_region 14 with fail
          generalize w5.setCell ⟨bo, 0, none⟩ (Value.string nm) = w6 at *
          clear HRA HBA HOA b0 b1 b2 b3 b4 b5 b6 f0 f1 f2 f3 f4 f5 f6
          have y3 := HR6.out.cell 3
          simp only [List.getElem?_cons_zero, List.getElem?_cons_succ] at y3
          go_wp2_with fail
          refine (one_c _ _).mono ?_
          rintro e w8 ⟨rfl, rfl⟩
          rw [one_quo]
          generalize fn BinOp.quo x3 v3 = d
          obtain ⟨sh, hsh⟩ : ∃ sh, byV x3 v3 = sh := ⟨_, rfl⟩
          rw [hsh]
          have HSH := Lib.hid hsh
          clear hsh
          have HR7 := Lib.hid (HR6.out.drewN d)
          have HB7 := Lib.hid (below_drewN HB6.out d)
          have HO7 := Lib.hid (own_below HO6.out (below_drewN (Below.refl _ w6) d))
          generalize w6.drewN d = w7 at *
          clear HR6 HB6 HO6 y3
          obtain ⟨⟨b0, b1, b2, b3, b4, b5, b6⟩, f0, f1, f2, f3, f4, f5, f6⟩ := HR7.out.at7
          have HR8 : Hid (Row (w7.setCell ⟨bo, 5, none⟩ (.float .f64 sh)) bo 28 [.string nm, .int .i64 x1, .int .i64 x2, .float .f64 x3, .float .f64 x4, .float .f64 sh, .float .f64 x6]) := Lib.hid (HR7.out.set 5 (.float .f64 sh))
          have HB8 := Lib.hid (HB7.out.setCell (p := ⟨bo, 5, none⟩) (by show w3.heap.size ≤ bo; omega) (.float .f64 sh))
          have HO8 := Lib.hid (own_set_ne (o := 5) (x := .float .f64 sh) HO7.out HVB.out)
          go_upto_region 15 with fail
          generalize w7.setCell ⟨bo, 5, none⟩ (Value.float .f64 sh) = w8 at *
          clear HR7 HB7 HO7 b0 b1 b2 b3 b4 b5 b6 f0 f1 f2 f3 f4 f5 f6
          obtain ⟨⟨b0, b1, b2, b3, b4, b5, b6⟩, f0, f1, f2, f3, f4, f5, f6⟩ := HR8.out.at7
          have hs8 : w3.heap.size ≤ w8.heap.size := HB8.out.size
          go_wp2_with (first
            | (at_builtin; refine wpList_append_own _ rfl _ _ 30 rfl w3.heap.size 28 k0 (.agg #[.string ByteArray.empty, .int .i64 0, .int .i64 0, .float .f64 0, .float .f64 0, .float .f64 0, .float .f64 0]) 7 64 Try.underlying30 hki hkz0 hkz1 hkz2 rfl (by decide) _ k (sms (groupsL ss (ns.take k))) rfl (World.ownsRow.alloc HO8.out _) ⟨w8.heap.size, 0, none⟩ 1 1 [.string nm, .int .i64 x1, .int .i64 x2, .float .f64 x3, .float .f64 x4, .float .f64 sh, .float .f64 x6] rfl rfl ?c1 ?c2 ?c3 ?c4 ?c5 ?_)
            | go_in)
          case c1 =>
            intro q u hq
            rw [add_zero]
            exact ((Row.new w8 28 [.string nm, .int .i64 x1, .int .i64 x2, .float .f64 x3, .float .f64 x4, .float .f64 sh, .float .f64 x6]).cell q).trans hq
          case c2 => intro u hu; simp at hu; rcases hu with rfl | rfl | rfl | rfl | rfl | rfl | rfl <;> rfl
          case c3 => unfold maxLen; omega
          case c4 => omega
          case c5 => simp; omega
          intro v' w9 hown' hgrow _
          have hob : ∀ q, u7.ownBlock = some q → w3.heap.size ≤ q := fun q hq => (HO8.out.lt q hq).1
          have hgr : w8.grownBy w9 u7.ownBlock := (World.grownBy_alloc w8 _ _).trans hgrow
          have HB9 : Hid (Below w3.heap.size w3 w9) := Lib.hid (HB8.out.grown hgr hs8 hob)
          have HO9 := Lib.hid hown'
          have HSM : Hid (sms (groupsL ss (ns.take (k + 1))) = sms (groupsL ss (ns.take k)) ++ [.string nm, .int .i64 x1, .int .i64 x2, .float .f64 x3, .float .f64 x4, .float .f64 sh, .float .f64 x6]) := Lib.hid (by
            rw [take_next HNK.out]
            unfold groupsL
            rw [List.map_append, sms_append]
            congr 1
            have e := HS2.out
            unfold sumS at e
            injection e with e0 e1 e2 e3 e4 e5 e6
            show (sumS (named nm ss) nm (byV (sumV (valuesV (named nm ss) 1)) (sumV (valuesV ss 1)))).cells ++ [] = _
            unfold sumS Sm.cells
            simp only [e1, e2, e3, e4, e6, ← HSB.out, HSH.out, List.append_nil])
          clear hown' hgrow hgr hob
          go_wp2_with fail
          go_roundw
          case rel =>
            refine ⟨k + 1, by omega, by go_num, ?_, HB9.out⟩
            rw [HSM.out]
            exact HO9.out
          case measure => simp [intOf] <;> omega
        · have hkN : k = N := by omega
          subst hkN
          have hall : ns.take k = ns := List.take_of_length_le (by rw [HN.out]; omega)
          rw [hall] at hown
          have HO : Hid (wr.ownsRow w.heap.size 28 7 u7 k (sms (groupsL ss ns))) := Lib.hid (own_base hown hws)
          have HB : Hid (Below w.heap.size w wr) := Lib.hid (HBQ.out.trans (hbx.mono hws))
          have d1 : decide ((k : Int) < (k : Int)) = false := decide_eq_false (by omega)
          clear hown hbx hall
          go_wp2_with fail
          go_ret
          exact ⟨_, ns, rfl, HNM.out, by rw [HN.out]; omega, by rw [HN.out]; exact HO.out, HB.out⟩
end Go.Proofs.Ytfiimmbpfdpjfaa
