/- The helpers of the laws over leagues, by contract; how a league is opened. -/
import Derived.Test.YtdmneccfbfdloaaLg
import Derived.Test.YtdmneccfbfdloaaTourLw
import Derived.Test.YtdmneccfbfdloaaMarks
namespace Go.Proofs.Ytdmneccfbfdloaa
open Go.ChangeShapes Go.WideShapes Go.ChangeAt Go.RowKit Go.Joins Go.Deep Go.Sort
set_option maxRecDepth 100000


theorem flat4_set (rs : List R4) (k : Nat) (hk : k < rs.length) (r : R4) :
    ((((flat4 rs).set (k * 4) (.int .i64 r.1)).set (k * 4 + 1) (.int .i64 r.2.1)).set (k * 4 + 2) (.int .i64 r.2.2.1)).set (k * 4 + 3) (.int .i64 r.2.2.2) = flat4 (rs.set k r) := by
  induction rs generalizing k with
  | nil => simp at hk
  | cons q rs ih =>
    cases k with
    | zero => simp [flat4, cells4]
    | succ k =>
      have e : flat4 (q :: rs) = cells4 q ++ flat4 rs := by simp [flat4]
      have l : (cells4 q).length = 4 := rfl
      have s : ∀ (L : List Value) (i : Nat) (u : Value), (cells4 q ++ L).set ((k + 1) * 4 + i) u = cells4 q ++ L.set (k * 4 + i) u := fun L i u => by
        rw [List.set_append_right _ _ (by omega), l, show (k + 1) * 4 + i - 4 = k * 4 + i by omega]
      have s0 : ∀ (L : List Value) (u : Value), (cells4 q ++ L).set ((k + 1) * 4) u = cells4 q ++ L.set (k * 4) u := fun L u => s L 0 u
      rw [e, s0, s, s, s, ih k (by simpa using hk), List.set_cons_succ]
      simp [flat4]
theorem OwnR.set_ {w : World} {base g n c : Nat} {rs : List R4} (h : OwnR w base (.slice (some ⟨g, 0, none⟩) n c) rs) (hl : rs.length = n) (k : Nat) (hk : k < n) (r : R4) :
    OwnR ((((w.setCell ⟨g, k * 4, none⟩ (.int .i64 r.1)).setCell ⟨g, k * 4 + 1, none⟩ (.int .i64 r.2.1)).setCell ⟨g, k * 4 + 2, none⟩ (.int .i64 r.2.2.1)).setCell ⟨g, k * 4 + 3, none⟩ (.int .i64 r.2.2.2)) base (.slice (some ⟨g, 0, none⟩) n c) (rs.set k r) ∧
      w.grownBy ((((w.setCell ⟨g, k * 4, none⟩ (.int .i64 r.1)).setCell ⟨g, k * 4 + 1, none⟩ (.int .i64 r.2.1)).setCell ⟨g, k * 4 + 2, none⟩ (.int .i64 r.2.2.1)).setCell ⟨g, k * 4 + 3, none⟩ (.int .i64 r.2.2.2)) (some g) := by
  subst hl
  have hr : w.ownsRow base 52 4 (.slice (some ⟨g, 0, none⟩) rs.length c) rs.length (flat4 rs) := h
  have s1 := World.ownsRow.stored hr (k * 4) (.int .i64 r.1)
  have s2 := World.ownsRow.stored s1.1 (k * 4 + 1) (.int .i64 r.2.1)
  have s3 := World.ownsRow.stored s2.1 (k * 4 + 2) (.int .i64 r.2.2.1)
  have s4 := World.ownsRow.stored s3.1 (k * 4 + 3) (.int .i64 r.2.2.2)
  refine ⟨?_, grown_trans (grown_trans (grown_trans s1.2 s2.2) s3.2) s4.2⟩
  unfold OwnR
  rw [List.length_set, ← flat4_set rs k hk r]
  exact s4.1
/-- where an own slice of results lies -/
theorem OwnR.at_ {w : World} {base : Nat} {v : Value} {rs : List R4} {n : Nat} (h : OwnR w base v rs) (hl : rs.length = n) (h0 : 0 < n) :
    ∃ g c, v = .slice (some ⟨g, 0, none⟩) n c ∧ base ≤ g ∧ c ≤ maxLen ∧ n ≤ c ∧ (∀ k, k < n → Four w g (k * 4) (r4At rs k)) ∧ ∀ k, w.frozen? ⟨g, k, none⟩ = false := by
  have hc := h.rd
  subst hl
  have hr : w.ownsRow base 52 4 v rs.length (flat4 rs) := h
  rcases h.2 with ⟨_, e⟩ | ⟨g, cap, cur, rfl, hb, hg, hle, hm, _⟩
  · omega
  · refine ⟨g, cap, rfl, hb, hm, hle, fun k hk => ?_, fun k => World.ownsRow.frozenAt hr k⟩
    obtain ⟨A, c, e, _, _, hx⟩ := hc
    obtain ⟨b, off, rfl, _, hx⟩ := hx h0
    injection e with e1 _ _
    injection e1 with e1
    injection e1 with e1 e2 _
    subst e1
    subst e2
    have := hx k hk
    simpa using this
theorem res_info : (Try.prog.info? 52).map (fun i => (i.zero, i.size, i.bytes)) = some (some (.agg #[.int .i64 0, .int .i64 0, .int .i64 0, .int .i64 0]), 4, 32) := by kernel_rfl
theorem flat4_replicate (n : Nat) : flat4 (List.replicate n (0, 0, 0, 0)) = List.replicate (n * 4) (.int .i64 0) := by
  rw [List.eq_replicate_iff]
  refine ⟨by rw [flat4_length, List.length_replicate], fun u hu => ?_⟩
  obtain ⟨r, hr, hu⟩ := List.mem_flatMap.1 hu
  rw [List.mem_replicate] at hr
  rw [hr.2] at hu
  simpa [cells4] using hu
theorem made_zero4 (n : Nat) : (madeCells (Value.agg #[.int .i64 0, .int .i64 0, .int .i64 0, .int .i64 0]).cells n).toList = List.replicate n (.int .i64 0) := by
  rw [List.eq_replicate_iff]
  refine ⟨by simp [madeCells], fun u hu => ?_⟩
  simp only [madeCells, Array.toList_map, List.mem_map] at hu
  obtain ⟨i, _, rfl⟩ := hu
  have h4 : i % 4 < 4 := Nat.mod_lt _ (by omega)
  simp only [Value.cells, show (#[Value.int IntKind.i64 0, Value.int IntKind.i64 0, Value.int IntKind.i64 0, Value.int IntKind.i64 0] : Array Value).size = 4 from rfl]
  generalize i % 4 = j at *
  match j, h4 with
  | 0, _ => rfl
  | 1, _ => rfl
  | 2, _ => rfl
  | 3, _ => rfl
theorem take_set_snoc (rs : List R4) (k : Nat) (hk : k < rs.length) : (rs.take k ++ List.replicate (rs.length - k) (0, 0, 0, 0)).set k (r4At rs k) = rs.take (k + 1) ++ List.replicate (rs.length - (k + 1)) (0, 0, 0, 0) := by
  have hr : rs.length - k = (rs.length - (k + 1)) + 1 := by omega
  have hl : (rs.take k).length = k := by rw [List.length_take]; omega
  rw [List.set_append_right _ _ (by omega), hl, Nat.sub_self, hr, List.replicate_succ, List.set_cons_zero, List.take_succ_eq_append_getElem hk, List.append_assoc, List.singleton_append, show r4At rs k = rs[k] by simp [r4At, hk]]
end Go.Proofs.Ytdmneccfbfdloaa
