/-
  Contracts of the functions that draw widths, patterns and values. Conditions: the arguments lie in memory as the contract says.
-/
import Derived.Test.YtjpbmjigmbfcfaaGen
import Derived.Test.YtjpbmjigmbfcfaaLib2
import Derived.Test.YtjpbmjigmbfcfaaC3R
namespace Go.Proofs.Ytjpbmjigmbfcfaa
open Go Go.PR Go.RowKit attribute [local irreducible] T E Ints Sl Bools OwnI OwnB OwnR Recs Box Ret
attribute [local irreducible] Bytes

theorem someWidths_spec (w0 w : World) (b : Nat) (cv : Value) (cs : List Int) (p : Int) (hR : Rd w0 w b cv cs p) (hp : p ≤ 900000) :
    Ret Try.prog 79 #[bPtr b 0] w (fun r w' => ∃ width ov ws q, r = .tuple #[.int .i64 width, ov] ∧ OwnI w' w.heap.size 3 ov ws ∧ (7 ≤ width ∧ width ≤ 24) ∧ ws.length ≤ 4 ∧ 0 < ws.length ∧ (∀ x ∈ ws, 2 ≤ x ∧ x ≤ width) ∧ Drew w0 w w' b cv cs p q 6) := by
  have hG := GS.start hR
  have hp0 := hR.pos
  have hlt0 := hG.lt
  refine Ret_of (args := [_]) Try.call79 Try.func79 rfl _ Try.ntmps79 rfl ?_
  repeat (first | refine T_move rfl rfl ?_ | refine T_assign rfl rfl ?_ | refine T_nil0 ?_ | refine E_seq ?_ | refine E_region ?_)
  have hlt := hG.lt; have hgs := hG.grown.size; refine T_litI tyI rfl rfl rfl rfl (fun lv _ hL _ _ hB => ?_); have hG := hG.later hB; refine T_call rfl rfl (one_spec _ _ _ _ _ (p) lv _ _ hG.rd (by omega) hL (by omega) (by simp) (by simp)) (fun r _ hr => ?_); obtain ⟨width, rfl, widthm, hD⟩ := hr; have hG := hG.drew hD
  have hwd : 7 ≤ width ∧ width ≤ 24 := by simp only [List.mem_cons, List.not_mem_nil, or_false] at widthm; omega
  clear widthm
  repeat (first | refine T_assign rfl rfl ?_ | refine T_nil0 ?_ | refine E_seq ?_ | refine E_region ?_)
  have hgs := hG.grown.size; refine T_litI tyI rfl rfl rfl rfl (fun ov _ hov _ _ hB => ?_); have hG := hG.later hB
  repeat (first | refine T_move rfl rfl ?_ | refine T_assign rfl rfl ?_ | refine T_nil0 ?_ | refine E_seq ?_ | refine E_region ?_)
  have hlt := hG.lt; have hgs := hG.grown.size; refine T_litI tyI rfl rfl rfl rfl (fun lv _ hL _ _ hB => ?_); have hG := hG.later hB; refine T_call rfl rfl (one_spec _ _ _ _ _ (p + 1) lv _ _ hG.rd (by omega) hL (by omega) (by simp) (by simp)) (fun r _ hr => ?_); obtain ⟨n, rfl, nm, hD⟩ := hr; have hG := hG.drew hD
  have hov := hov.later hB
  have hov := hov.drew hD (by omega)
  have hn : 1 ≤ n ∧ n ≤ 4 := by simp only [List.mem_cons, List.not_mem_nil, or_false] at nm; omega
  clear nm
  have hov := hov.base (B' := w.heap.size) (by omega)
  clear hB hD hL
  repeat (first | refine T_assign rfl rfl ?_ | refine T_nil0 ?_)
  refine E_loop (σ := Int × List Int × Value × Int) (fun ⟨n, ws, ov, q⟩ => [(0, bPtr b 0), (4, .int .i64 width), (5, ov), (6, .int .i64 n)])
    (fun ⟨n, ws, ov, q⟩ w' => 0 ≤ n ∧ n ≤ 4 ∧ (ws.length : Int) ≤ 4 - n ∧ (0 < ws.length ∨ 0 < n) ∧ (∀ x ∈ ws, 2 ≤ x ∧ x ≤ width) ∧ OwnI w' w.heap.size 3 ov ws ∧ GS w0 w w' b cv cs q ∧ q ≤ p + 2 + (4 - n)) (fun ⟨n, _⟩ => n.toNat) (n, [], ov, p + 1 + 1)
    ⟨by omega, by omega, by simp; omega, by omega, by simp, hov, hG, by omega⟩ ⟨rfl, rfl, rfl, rfl, trivial⟩ ?_
  clear hov hG hn
  rintro ⟨n, ws, ov, q⟩ w4 ⟨hn0, hn4, hwl, hpos, hws, hO, hG, hq⟩ IH
  repeat (first | refine T_move rfl rfl ?_ | refine T_nil0 ?_ | refine E_seq ?_ | refine E_region ?_ | refine T_cmp rfl rfl rfl rfl ?_)
  refine E_cond_if rfl (fun hp1 => ?_) (fun hp1 => ?_)
  case refine_2 =>
    repeat' (first | refine T_move rfl rfl ?_ | refine T_assign rfl rfl ?_ | refine T_nil0 ?_ | refine E_seq ?_ | refine E_region ?_ | refine E_exit rfl ?_ | refine E_ret2 rfl rfl rfl ?_)
    exact ⟨width, ov, ws, q, rfl, hO, hwd, by omega, by omega, hws, hG.out (by omega)⟩
  repeat (first | refine T_move rfl rfl ?_ | refine E_seq ?_ | refine E_region ?_ | refine T_sub rfl rfl rfl (by omega) ?_ | refine E_skip ?_ | refine E_blockS ?_)
  refine T_call rfl rfl (pick_spec _ _ _ _ _ (q) (_) hG.rd (by omega)) (fun r _ hr => ?_); obtain ⟨x, rfl, xa, xb, _, hD⟩ := hr; have xb := xb (by omega); have hG := hG.drew hD
  have hO := hO.drew hD (by omega)
  repeat (first | refine T_move rfl rfl ?_ | refine T_assign rfl rfl ?_ | refine T_nil0 ?_ | refine E_seq ?_ | refine E_region ?_ | refine T_add rfl rfl rfl (by omega) ?_)
  refine T_call rfl rfl (placeIn_spec ov ws (2 + x) _ hO.ints (by omega)) (fun r _ hr => ?_)
  obtain ⟨rfl, rfl⟩ := hr
  repeat (first | refine T_nil0 ?_ | refine T_cmp rfl rfl rfl rfl ?_)
  refine E_cond_if rfl (fun hp2 => ?_) (fun hp2 => ?_)
  case refine_2 =>
    repeat (first | refine T_move rfl rfl ?_ | refine T_assign rfl rfl ?_ | refine T_nil0 ?_ | refine E_region ?_ | refine T_sub rfl rfl rfl (by omega) ?_ | refine E_skip ?_ | refine E_inBlock ?_)
    refine IH (n - 1, ws, ov, q + 1) _ _ ⟨by omega, by omega, by omega, ?_, hws, hO, hG, by omega⟩ (by show (n - 1).toNat < n.toNat; omega) ⟨rfl, rfl, rfl, rfl, trivial⟩
    left
    have h1 := findI_nonneg (a := 2 + x) (xs := ws)
    have h2 := h1.1 (by omega)
    exact List.length_pos_of_mem h2
  repeat (first | refine T_move rfl rfl ?_ | refine E_region ?_)
  have hgs := hG.grown.size; refine T_litI tyI rfl rfl rfl rfl (fun lv _ hlv _ _ hB => ?_); have hG := hG.later hB
  have hO := hO.later hB
  refine T_appendI tyI rfl rfl rfl hO hlv.ints hG.grown.size (by simp; omega) (by simp; omega) (fun ov' w10 hO' hg _ => ?_)
  have hG := hG.own hg hO.blk (Nat.le_refl _)
  repeat (first | refine T_move rfl rfl ?_ | refine T_assign rfl rfl ?_ | refine T_nil0 ?_ | refine E_region ?_ | refine T_sub rfl rfl rfl (by omega) ?_ | refine E_inBlock ?_)
  refine IH (n - 1, ws ++ [2 + x], ov', q + 1) w10 _ ⟨by omega, by omega, by simp; omega, by simp, ?_, hO', hG, by omega⟩ (by show (n - 1).toNat < n.toNat; omega) ⟨rfl, rfl, rfl, rfl, trivial⟩
  intro y hy
  rcases List.mem_append.1 hy with h | h
  · exact hws y h
  · simp at h; omega

/-- what is drawn as widths -/
def DrawnW (width : Int) (ws : List Int) : Prop := (0 ≤ width ∧ width ≤ 61) ∧ ws.length ≤ 5 ∧ ∀ x ∈ ws, 0 ≤ x ∧ x ≤ 61

theorem anyWidths_spec (w0 w : World) (b : Nat) (cv : Value) (cs : List Int) (p : Int) (hR : Rd w0 w b cv cs p) (hp : p ≤ 900000) :
    Ret Try.prog 63 #[bPtr b 0] w (fun r w' => ∃ width ov ws q, r = .tuple #[.int .i64 width, ov] ∧ OwnI w' w.heap.size 3 ov ws ∧ DrawnW width ws ∧ Drew w0 w w' b cv cs p q 8) := by
  have hG := GS.start hR
  have hp0 := hR.pos
  have hlt0 := hG.lt
  refine Ret_of (args := [_]) Try.call63 Try.func63 rfl _ Try.ntmps63 rfl ?_
  repeat (first | refine T_move rfl rfl ?_ | refine T_assign rfl rfl ?_ | refine T_nil0 ?_ | refine E_seq ?_ | refine E_region ?_)
  refine T_call rfl rfl (someWidths_spec w0 w b cv cs p hR hp) (fun r _ hr => ?_)
  obtain ⟨width, ov, ws, q, rfl, hO, hwd, hwl, hpos, hws, hD⟩ := hr
  have hq := hD.most
  have hG := hG.drew hD
  have hq0 := hG.rd.pos
  clear hD
  repeat (first | refine T_move rfl rfl ?_ | refine T_assign rfl rfl ?_ | refine T_nil0 ?_ | refine E_seq ?_ | refine E_region ?_ | refine T_extract rfl rfl rfl ?_)
  refine T_call rfl rfl (pick_spec _ _ _ _ _ (q) (20) hG.rd (by omega)) (fun r _ hr => ?_); obtain ⟨x, rfl, xa, xb, _, hD⟩ := hr; have xb := xb (by omega); have hG := hG.drew hD
  have hO := hO.drew hD (by omega)
  have hI := hO.ints
  have hg0 := hws _ (getD_mem (xs := ws) (k := (0 : Int).toNat) hpos)
  have hg1 := hws _ (getD_mem (xs := ws) (k := 0) hpos)
  have hall : ∀ x ∈ ws, 0 ≤ x ∧ x ≤ 61 := fun x hx => by have := hws x hx; omega
  clear hD
  repeat (first | refine T_assign rfl rfl ?_ | refine T_nil0 ?_ | refine E_seq ?_ | refine E_region ?_ | refine T_cmp rfl rfl rfl rfl ?_ | refine E_blockS ?_)
  refine E_cond_if rfl (fun h1 => ?_) (fun h1 => ?_)
  · repeat (first | refine T_move rfl rfl ?_ | refine E_region ?_ | refine T_add rfl rfl rfl (by omega) ?_ | refine T_indexN tyI rfl rfl rfl (by assumption) (by omega) ?_ | refine T_loadI Try.isAgg3 rfl rfl (by assumption) (by omega) ?_)
    have hlt := hG.lt; have hgs := hG.grown.size; refine T_litI tyI rfl rfl rfl rfl (fun lv _ hL _ _ hB => ?_); have hG := hG.later hB; refine T_call rfl rfl (one_spec _ _ _ _ _ (q + 1) lv _ _ hG.rd (by omega) hL (by omega) (by simp) (by simp)) (fun r _ hr => ?_); obtain ⟨y, rfl, ym, hD⟩ := hr; have hG := hG.drew hD
    have hO := (hO.later hB).drew hD (by omega)
    have hy : 0 ≤ y ∧ y ≤ 61 := by simp only [List.mem_cons, List.not_mem_nil, or_false] at ym; omega
    have hgs := hG.grown.size; refine T_litI tyI rfl rfl rfl rfl (fun lv _ hlv _ _ hB => ?_); have hG := hG.later hB
    have hO := hO.later hB
    refine T_appendI tyI rfl rfl rfl hO hlv.ints hG.grown.size (by simp; omega) (by simp; omega) (fun ov' w10 hO' hg _ => ?_)
    have hG := hG.own hg hO.blk (Nat.le_refl _)
    repeat' (first | refine T_move rfl rfl ?_ | refine T_assign rfl rfl ?_ | refine T_nil0 ?_ | refine E_seq ?_ | refine E_region ?_ | refine E_inBlock ?_ | refine E_ret2 rfl rfl rfl ?_)
    refine ⟨width, ov', ws ++ [y], q + 1 + 1, rfl, hO', ⟨by omega, by simp; omega, ?_⟩, hG.out (by omega)⟩
    intro z hz
    rcases List.mem_append.1 hz with h | h
    · exact hall z h
    · simp at h; omega
  repeat (first | refine T_assign rfl rfl ?_ | refine T_nil0 ?_ | refine E_seq ?_ | refine E_region ?_ | refine T_cmp rfl rfl rfl rfl ?_)
  refine E_cond_if rfl (fun h2 => ?_) (fun h2 => ?_)
  · repeat (first | refine T_move rfl rfl ?_ | refine E_region ?_)
    have hlt := hG.lt; have hgs := hG.grown.size; refine T_litI tyI rfl rfl rfl rfl (fun lv _ hL _ _ hB => ?_); have hG := hG.later hB; refine T_call rfl rfl (one_spec _ _ _ _ _ (q + 1) lv _ _ hG.rd (by omega) hL (by omega) (by simp) (by simp)) (fun r _ hr => ?_); obtain ⟨y, rfl, ym, hD⟩ := hr; have hG := hG.drew hD
    have hO := (hO.later hB).drew hD (by omega)
    have hy : 0 ≤ y ∧ y ≤ 61 := by simp only [List.mem_cons, List.not_mem_nil, or_false] at ym; omega
    repeat' (first | refine T_move rfl rfl ?_ | refine T_assign rfl rfl ?_ | refine T_nil0 ?_ | refine E_seq ?_ | refine E_region ?_ | refine E_inBlock ?_ | refine E_ret2 rfl rfl rfl ?_)
    exact ⟨y, ov, ws, q + 1 + 1, rfl, hO, ⟨hy, by omega, hall⟩, hG.out (by omega)⟩
  repeat (first | refine T_assign rfl rfl ?_ | refine T_nil0 ?_ | refine E_seq ?_ | refine E_region ?_ | refine T_cmp rfl rfl rfl rfl ?_)
  refine E_cond_if rfl (fun h3 => ?_) (fun h3 => ?_)
  · repeat' (first | refine T_move rfl rfl ?_ | refine T_assign rfl rfl ?_ | refine T_nil0 ?_ | refine E_seq ?_ | refine E_region ?_ | refine E_inBlock ?_ | refine E_ret2 rfl rfl rfl ?_)
    exact ⟨width, _, [], q + 1, rfl, OwnI.nil _ _ _, ⟨by omega, by simp, by simp⟩, hG.out (by omega)⟩
  · repeat' (first | refine T_move rfl rfl ?_ | refine T_assign rfl rfl ?_ | refine T_nil0 ?_ | refine E_seq ?_ | refine E_region ?_ | refine E_skip ?_ | refine E_inBlock ?_ | refine E_ret2 rfl rfl rfl ?_)
    exact ⟨width, ov, ws, q + 1, rfl, hO, ⟨by omega, by omega, hall⟩, hG.out (by omega)⟩

theorem DrawValidPattern_spec (cv : Value) (cs : List Int) (w : World) (hY : Bytes w.heap cv cs) (hb : ∀ c ∈ cs, 0 ≤ c ∧ c ≤ 255) :
    Ret Try.prog 31 #[cv] w (fun r w' => ∃ width ov nv ws ns, r = .tuple #[.int .i64 width, ov, nv] ∧ OwnI w' w.heap.size 3 ov ws ∧ OwnI w' w.heap.size 3 nv ns ∧ DrawnW width ws ∧ ns.length = ws.length ∧ (∀ x ∈ ns, -1 ≤ x ∧ x ≤ 100) ∧ Below w.heap.size w w') := by
  refine Ret_of (args := [_]) Try.call31 Try.func31 rfl _ Try.ntmps31 rfl ?_
  repeat (first | refine T_move rfl rfl ?_ | refine T_assign rfl rfl ?_ | refine T_nil0 ?_ | refine E_seq ?_ | refine E_region ?_)
  refine T_call rfl rfl (newReader_spec cv cs w hY hb) (fun r w1 hr => ?_)
  obtain ⟨b, cv', cs', rfl, hR, hB1, hnew⟩ := hr
  have hz0 := hB1.size
  have hlt1 := hR.lt
  repeat (first | refine T_move rfl rfl ?_ | refine T_assign rfl rfl ?_ | refine T_nil0 ?_ | refine E_seq ?_ | refine E_region ?_)
  refine T_call rfl rfl (anyWidths_spec w w1 b cv' cs' 0 hR (by omega)) (fun r w2 hr => ?_)
  obtain ⟨width, ov, ws, q, rfl, hO, hdw, hD⟩ := hr
  have hq := hD.most
  have hG := (GS.start hR).drew hD
  have hwl := hdw.2.1
  have hwd := hdw.1
  have hw3 := hdw.2.2
  have hq0 := hG.rd.pos
  clear hD hR
  have hob := hO.blk
  have hz2 := hG.grown.size
  repeat (first | refine T_move rfl rfl ?_ | refine T_assign rfl rfl ?_ | refine T_nil0 ?_ | refine E_seq ?_ | refine E_region ?_ | refine T_extract rfl rfl rfl ?_)
  have hgs := hG.grown.size; refine T_litI tyI rfl rfl rfl rfl (fun nv _ hnv _ _ hB => ?_); have hG := hG.later hB
  have hO := hO.later hB
  have hz3 := hB.size
  clear hB
  repeat (first | refine T_move rfl rfl ?_ | refine T_assign rfl rfl ?_ | refine T_nil0 ?_ | refine E_seq ?_ | refine E_region ?_)
  refine E_loop (σ := Nat × Int × List Int × Value × Int) (fun ⟨k, left, ns, nv, q⟩ => [(5, bPtr b 0), (6, .int .i64 width), (7, ov), (8, nv), (9, .int .i64 left), (10, .int .i64 k)])
    (fun ⟨k, left, ns, nv, q⟩ w' => k ≤ ws.length ∧ ns.length = k ∧ (0 ≤ left ∧ left ≤ 61) ∧ (∀ x ∈ ns, 0 ≤ x ∧ x ≤ 61) ∧ OwnI w' w2.heap.size 3 nv ns ∧ OwnI w' w1.heap.size 3 ov ws ∧ GS w w1 w' b cv' cs' q ∧ q ≤ 8 + k ∧ w2.heap.size ≤ w'.heap.size) (fun ⟨k, _⟩ => ws.length - k) (0, width, [], nv, q)
    ⟨by omega, rfl, hwd, by simp, hnv, hO, hG, by omega, by omega⟩ ⟨rfl, rfl, rfl, rfl, rfl, rfl, trivial⟩ ?_
  clear hO hG hnv hq hq0
  rintro ⟨k, left, ns, nv, q⟩ w4 ⟨hk, hnl, hleft, hns, hN, hO, hG, hq, hz6⟩ IH
  have hI := hO.ints
  have hJ := hN.ints
  have hz4 := hG.grown.size
  have hz5 := hN.blk
  repeat (first | refine T_move rfl rfl ?_ | refine T_nil0 ?_ | refine E_seq ?_ | refine E_region ?_ | refine T_cmp rfl rfl rfl rfl ?_ | refine T_len tyI rfl rfl (Ints.len (by assumption)) ?_)
  refine E_cond_if rfl (fun hp1 => ?_) (fun hp1 => ?_)
  case refine_2 =>
    have hke : k = ws.length := by omega
    refine E_exit rfl ?_
    refine E_seq ?_
    refine E_cut (fun m' w' => ∃ ns, Sub [(6, .int .i64 width), (7, ov), (8, nv)] m' ∧ ns.length = ws.length ∧ (∀ x ∈ ns, -1 ≤ x ∧ x ≤ 100) ∧ OwnI w' w2.heap.size 3 nv ns ∧ OwnI w' w1.heap.size 3 ov ws ∧ Below w.heap.size w w') (fun join => ?_) ?_
    case refine_2 =>
      rintro m' w5 ⟨ns, hsub, hnl, hns, hN, hO, hB⟩
      refine E.weaken hsub ?_
      repeat' (first | refine T_move rfl rfl ?_ | refine T_assign rfl rfl ?_ | refine T_nil0 ?_ | refine E_seq ?_ | refine E_region ?_ | refine E_ret3 rfl rfl rfl rfl ?_)
      exact ⟨width, ov, nv, ws, ns, rfl, hO.base hz0, hN.base (by omega), hdw, hnl, hns, hB⟩
    have hns' : ∀ x ∈ ns, -1 ≤ x ∧ x ≤ 100 := fun x hx => by have := hns x hx; omega
    repeat (first | refine T_move rfl rfl ?_ | refine E_seq ?_ | refine E_region ?_ | refine T_cmp rfl rfl rfl rfl ?_ | refine T_len tyI rfl rfl (Ints.len (by assumption)) ?_)
    refine T_guard rfl rfl (fun h1 => ?_) (fun h1 => ?_)
    case refine_2 =>
      repeat (first | refine join _ _ ?_ | refine T_nil0 ?_ | refine T_off rfl rfl rfl ?_ | refine T_pick_false rfl rfl rfl ?_ | refine E_cond_false rfl ?_ | refine E_skip ?_)
      exact ⟨ns, ⟨rfl, rfl, rfl, trivial⟩, by omega, hns', hN, hO, hG.rd.below⟩
    have hg0 := hns _ (getD_mem (xs := ns) (k := (0 : Int).toNat) (by show 0 < ns.length; omega))
    have hg1 := hns _ (getD_mem (xs := ns) (k := 0) (by omega))
    refine T_on rfl rfl ?_
    repeat (first | refine T_move rfl rfl ?_ | refine T_on rfl rfl ?_)
    refine T_call rfl rfl (pick_spec _ _ _ _ _ (q) (10) hG.rd (by omega)) (fun r _ hr => ?_); obtain ⟨x, rfl, xa, xb, _, hD⟩ := hr; have xb := xb (by omega); have hG := hG.drew hD
    have hO := hO.drew hD (by omega)
    have hN := hN.drew hD (by omega)
    have hJ := hN.ints
    repeat (first | refine T_nil0 ?_ | refine T_cmp rfl rfl rfl rfl ?_ | refine T_on rfl rfl ?_ | refine T_pick_true rfl rfl rfl ?_)
    refine E_cond_if rfl (fun h2 => ?_) (fun h2 => ?_)
    case refine_2 =>
      repeat (first | refine join _ _ ?_ | refine E_skip ?_)
      exact ⟨ns, ⟨rfl, rfl, rfl, trivial⟩, by omega, hns', hN, hO, hG.rd.below⟩
    repeat (first | refine T_move rfl rfl ?_ | refine E_region ?_ | refine T_add rfl rfl rfl (by omega) ?_ | refine T_indexI tyI rfl rfl rfl (by assumption) (by omega) ?_ | refine T_loadI Try.isAgg3 rfl rfl (by assumption) (by omega) ?_)
    have hlt := hG.lt; have hgs := hG.grown.size; refine T_litI tyI rfl rfl rfl rfl (fun lv _ hL _ _ hB => ?_); have hG := hG.later hB; refine T_call rfl rfl (one_spec _ _ _ _ _ (q + 1) lv _ _ hG.rd (by omega) hL (by omega) (by simp) (by simp)) (fun r _ hr => ?_); obtain ⟨y, rfl, ym, hD⟩ := hr; have hG := hG.drew hD
    have hO := (hO.later hB).drew hD (by omega)
    have hN := (hN.later hB).drew hD (by omega)
    have hJ := hN.ints
    have hy : -1 ≤ y ∧ y ≤ 100 := by simp only [List.mem_cons, List.not_mem_nil, or_false] at ym; omega
    repeat (first | refine T_indexI tyI rfl rfl rfl (by assumption) (by omega) ?_)
    refine T_storeI Try.sizeOf3 rfl rfl hN (by show 0 < ns.length; omega) (fun w6 hN6 hg6 hs6 => ?_)
    have hG := hG.own hg6 hN.blk (by omega)
    have hO := hO.kept hg6 (hob.ne hN.blk (.inl (Nat.le_refl _)))
    repeat (first | refine join _ _ ?_ | refine T_nil0 ?_)
    refine ⟨_, ⟨rfl, rfl, rfl, trivial⟩, by simp; omega, ?_, hN6, hO, hG.rd.below⟩
    intro z hz
    rcases List.mem_or_eq_of_mem_set hz with h | h
    · exact hns' z h
    · omega
  have hx := hw3 _ (getD_mem (xs := ws) (k := k) (by omega))
  repeat (first | refine T_assign rfl rfl ?_ | refine T_nil0 ?_ | refine E_seqR ?_ | refine E_seqB ?_ | refine E_region ?_ | refine E_skip ?_ | refine E_blockS ?_)
  refine E_seq ?_
  refine E_cut (fun m' w' => ∃ x q', Sub [(5, bPtr b 0), (6, .int .i64 width), (7, ov), (8, nv), (9, .int .i64 left), (10, .int .i64 k), (11, .int .i64 x)] m' ∧ 0 ≤ x ∧ x ≤ 61 ∧ 0 ≤ x * max (ws.getD k 0) 0 ∧ x * max (ws.getD k 0) 0 ≤ left ∧ OwnI w' w2.heap.size 3 nv ns ∧ OwnI w' w1.heap.size 3 ov ws ∧ GS w w1 w' b cv' cs' q' ∧ q' ≤ q + 1 ∧ w2.heap.size ≤ w'.heap.size) (fun join => ?_) ?_
  · repeat (first | refine T_move rfl rfl ?_ | refine E_seq ?_ | refine E_region ?_ | refine T_cmp rfl rfl rfl rfl ?_ | refine T_indexN tyI rfl rfl rfl (by assumption) (by omega) ?_ | refine T_loadI Try.isAgg3 rfl rfl (by assumption) (by omega) ?_)
    refine T_guard rfl rfl (fun g1 => ?_) (fun g1 => ?_)
    case refine_2 =>
      repeat (first | refine join _ _ ?_ | refine T_nil0 ?_ | refine T_off rfl rfl rfl ?_ | refine T_pick_false rfl rfl rfl ?_ | refine E_cond_false rfl ?_ | refine E_skip ?_)
      exact ⟨0, q, ⟨rfl, rfl, rfl, rfl, rfl, rfl, rfl, trivial⟩, by omega, by omega, by omega, by omega, hN, hO, hG, by omega, by omega⟩
    repeat (first | refine T_move rfl rfl ?_ | refine T_nil0 ?_ | refine T_cmp rfl rfl rfl rfl ?_ | refine T_on rfl rfl ?_ | refine T_pick_true rfl rfl rfl ?_ | refine T_indexN tyI rfl rfl rfl (by assumption) (by omega) ?_ | refine T_loadI Try.isAgg3 rfl rfl (by assumption) (by omega) ?_)
    refine E_cond_if rfl (fun g2 => ?_) (fun g2 => ?_)
    case refine_2 =>
      repeat (first | refine join _ _ ?_ | refine E_skip ?_)
      exact ⟨0, q, ⟨rfl, rfl, rfl, rfl, rfl, rfl, rfl, trivial⟩, by omega, by omega, by omega, by omega, hN, hO, hG, by omega, by omega⟩
    have hd0 : 0 ≤ left / ws.getD k 0 := Int.ediv_nonneg (by omega) (by omega)
    have hd1 : left / ws.getD k 0 ≤ left := Int.ediv_le_self _ (by omega)
    repeat (first | refine T_move rfl rfl ?_ | refine E_region ?_ | refine T_indexN tyI rfl rfl rfl (by assumption) (by omega) ?_ | refine T_loadI Try.isAgg3 rfl rfl (by assumption) (by omega) ?_)
    refine T_quo rfl rfl rfl (by omega) ?_
    repeat (first | refine T_add rfl rfl rfl (by omega) ?_)
    refine T_call rfl rfl (pick_spec _ _ _ _ _ (q) (_) hG.rd (by omega)) (fun r _ hr => ?_); obtain ⟨x, rfl, xa, xb, _, hD⟩ := hr; have xb := xb (by omega); have hG := hG.drew hD
    have hO := hO.drew hD (by omega)
    have hN := hN.drew hD (by omega)
    have hm := (Int.le_ediv_iff_mul_le (a := x) (b := left) (c := ws.getD k 0) (by omega)).1 (by omega)
    have hm0 : 0 ≤ x * ws.getD k 0 := Int.mul_nonneg (by omega) (by omega)
    have hmx : max (ws.getD k 0) 0 = ws.getD k 0 := by omega
    repeat (first | refine join _ _ ?_ | refine T_assign rfl rfl ?_ | refine T_nil0 ?_)
    exact ⟨x, q + 1, ⟨rfl, rfl, rfl, rfl, rfl, rfl, rfl, trivial⟩, by omega, by omega, by rw [hmx]; exact hm0, by rw [hmx]; exact hm, hN, hO, hG, by omega, by have := hD.grown.size; omega⟩
  rintro m' w5 ⟨x, q', hsub, hx0, hx1, hm0, hm1, hN, hO, hG, hq', hz7⟩
  refine E.weaken hsub ?_
  have hI := hO.ints
  repeat (first | refine T_move rfl rfl ?_ | refine E_seq ?_ | refine E_region ?_ | refine T_max rfl rfl rfl ?_ | refine T_indexN tyI rfl rfl rfl (by assumption) (by omega) ?_ | refine T_loadI Try.isAgg3 rfl rfl (by assumption) (by omega) ?_)
  refine T_mul rfl rfl rfl (by omega) ?_
  repeat (first | refine T_move rfl rfl ?_ | refine T_assign rfl rfl ?_ | refine T_nil0 ?_ | refine E_region ?_ | refine T_sub rfl rfl rfl (by omega) ?_)
  have hgs := hG.grown.size; refine T_litI tyI rfl rfl rfl rfl (fun lv _ hlv _ _ hB => ?_); have hG := hG.later hB
  have hO := hO.later hB
  have hN := hN.later hB
  refine T_appendI tyI rfl rfl rfl hN hlv.ints (by have := hB.size; omega) (by simp; omega) (by simp; omega) (fun nv' w10 hN' hg _ => ?_)
  have hG := hG.own hg hN.blk (by omega)
  have hO := hO.kept hg (hob.ne hN.blk (.inl (Nat.le_refl _)))
  repeat (first | refine T_move rfl rfl ?_ | refine T_assign rfl rfl ?_ | refine T_nil0 ?_ | refine E_region ?_ | refine T_add rfl rfl rfl (by omega) ?_ | refine E_inBlock ?_)
  refine IH (k + 1, left - x * max (ws.getD k 0) 0, ns ++ [x], nv', q') w10 _ ⟨by omega, by simp; omega, by omega, ?_, hN', hO, hG, by omega, by have := hg.size; have := hB.size; omega⟩ (by show ws.length - (k + 1) < ws.length - k; omega) ⟨rfl, rfl, rfl, rfl, rfl, rfl, trivial⟩
  intro z hz
  rcases List.mem_append.1 hz with h | h
  · exact hns z h
  · simp at h; omega

theorem DrawTrimOf_spec (cv : Value) (cs : List Int) (w : World) (hY : Bytes w.heap cv cs) (hb : ∀ c ∈ cs, 0 ≤ c ∧ c ≤ 255) :
    Ret Try.prog 20 #[cv] w (fun r w' => ∃ width ov nv ws ns, r = .tuple #[.int .i64 width, ov, nv] ∧ OwnI w' w.heap.size 3 ov ws ∧ OwnI w' w.heap.size 3 nv ns ∧ DrawnW width ws ∧ ns.length = ws.length ∧ (∀ x ∈ ns, -1 ≤ x ∧ x ≤ 100) ∧ Below w.heap.size w w') := by
  refine Ret_of (args := [_]) Try.call20 Try.func20 rfl _ Try.ntmps20 rfl ?_
  repeat (first | refine T_move rfl rfl ?_ | refine T_assign rfl rfl ?_ | refine T_nil0 ?_ | refine E_seq ?_ | refine E_region ?_)
  refine T_call rfl rfl (DrawValidPattern_spec cv cs w hY hb) (fun r w1 hr => ?_)
  obtain ⟨width, ov, nv, ws, ns, rfl, h⟩ := hr
  repeat' (first | refine T_assign rfl rfl ?_ | refine T_nil0 ?_ | refine T_extract rfl rfl rfl ?_ | refine E_ret3 rfl rfl rfl rfl ?_)
  exact ⟨width, ov, nv, ws, ns, rfl, h⟩
end Go.Proofs.Ytjpbmjigmbfcfaa
