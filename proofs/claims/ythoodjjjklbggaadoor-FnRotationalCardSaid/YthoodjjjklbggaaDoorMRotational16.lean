/- Texts put together: OrdW, RngG, OrdG, Code. -/
import Derived.Test.YthoodjjjklbggaaDoorMRotational15
import Derived.Test.YthoodjjjklbggaaDoorMRotational10
import Derived.Test.YthoodjjjklbggaaDoorMRotational14
import Derived.Laws.EntriesVeiled
import Derived.Test.YthoodjjjklbggaaDoorMRotational12
namespace Go.Proofs.YthoodjjjklbggaaDoor
open Go.RowKit Go.Sort
set_option maxRecDepth 100000
attribute [local go_sem] Oper.semAt_some
theorem YieldAt.any {m m' : Nat} {P : Program} {l : Nat} {args : Array Value} {W : World} {R : Ending → World → Prop} (h : YieldAt Fence.wide m P l args W R) : YieldAt Fence.wide m' P l args W R := by
  obtain ⟨fn, tmps, assign, body, hy, hR⟩ := h
  exact ⟨fn, tmps, assign, body, hy, hR.1, fun c cs _ => hR.2 c cs (room_wide _)⟩
theorem frozen_of_block {w w' : World} {a : Addr} (h : w'.heap[a.block]? = w.heap[a.block]?) : w'.frozen? a = w.frozen? a := by
  simp [World.frozen?, h]
/-- the boxes of the iterator: order, list, yield, extend; the list's block -/
structure OrdD (cb base ob lb yb eb gl : Nat) : Prop where
  hcb : cb ≠ ob ∧ cb ≠ lb ∧ cb ≠ yb ∧ cb ≠ eb ∧ cb ≠ gl
  hob : ob ≠ lb ∧ ob ≠ yb ∧ ob ≠ eb ∧ ob ≠ gl
  hbs : cb < base ∧ ob < base ∧ lb < base ∧ yb < base ∧ eb < base ∧ gl < base
structure OrdT (W : World) (ob lb yb eb gl n l : Nat) : Prop where
  lst : W.cell? ⟨lb, 0, none⟩ = some (.slice (some ⟨gl, 0, none⟩) n n)
  arr : ∀ k, k < n → W.cell? ⟨gl, k, none⟩ = some (.int .i64 (k : Nat))
  yld : W.cell? ⟨yb, 0, none⟩ = some (.func (.yield l) #[] #[])
  ext : W.cell? ⟨eb, 0, none⟩ = some (.func (.func 74) #[] #[.pointer (some ⟨ob, 0, none⟩), .pointer (some ⟨lb, 0, none⟩), .pointer (some ⟨yb, 0, none⟩), .pointer (some ⟨eb, 0, none⟩)])
  frz : W.frozen? ⟨ob, 0, none⟩ = false
def OrdO (W : World) (base ob : Nat) (pre : List Nat) : Prop := ∃ v, W.cell? ⟨ob, 0, none⟩ = some v ∧ Own W base v (nI pre)
theorem OrdT.grown {W W' : World} {cb base ob lb yb eb gl n l : Nat} {row : Option Nat} (h : OrdT W ob lb yb eb gl n l) (D : OrdD cb base ob lb yb eb gl) (hg : W.grownBy W' row) (hr : ∀ r, row = some r → base ≤ r) (hs : ob < W.heap.size) : OrdT W' ob lb yb eb gl n l := by
  have hb := D.hbs
  have k : ∀ {p : Addr} {v : Value}, p.block < base → W.cell? p = some v → W'.cell? p = some v := fun hp hv =>
    (World.cell?_of_block (hg.block _ (World.block_lt_of_cell? W _ hv) (fun e => by have := hr _ e.symm; omega))).trans hv
  exact ⟨k (by show lb < base; omega) h.lst, fun j hj => k (by show gl < base; omega) (h.arr j hj), k (by show yb < base; omega) h.yld, k (by show eb < base; omega) h.ext,
    (frozen_of_block (hg.block ob hs (fun e => by have := hr _ e.symm; omega))).trans h.frz⟩
theorem OrdT.setOb {W : World} {cb base ob lb yb eb gl n l : Nat} (h : OrdT W ob lb yb eb gl n l) (D : OrdD cb base ob lb yb eb gl) (v : Value) : OrdT (W.setCell ⟨ob, 0, none⟩ v) ob lb yb eb gl n l := by
  have ho := D.hob
  have k : ∀ {p : Addr} {u : Value}, p.block ≠ ob → W.cell? p = some u → (W.setCell ⟨ob, 0, none⟩ v).cell? p = some u := fun hp hv =>
    (World.cell?_setCell_other _ _ _ _ (fun e => hp (by rw [← e]))).trans hv
  exact ⟨k (Ne.symm ho.1) h.lst, fun j hj => k (Ne.symm ho.2.2.2) (h.arr j hj), k (Ne.symm ho.2.1) h.yld, k (Ne.symm ho.2.2.1) h.ext, by rw [World.frozen?_setCell]; exact h.frz⟩
theorem own_kpc {cb base : Nat} {W W' : World} {v : Value} {xs : List Int} (h : Own W base v xs) (k : KpC cb W W') (hb : cb < base) : Own W' base v xs := by
  refine ⟨h.1, ?_⟩
  rcases h.2 with h0 | ⟨g, cap, cur, hv, hg, hh, r⟩
  · exact .inl h0
  · exact .inr ⟨g, cap, cur, hv, hg, k.same _ _ (by omega) hh rfl, r⟩
theorem OrdT.kpc {W W' : World} {cb base ob lb yb eb gl n l : Nat} (h : OrdT W ob lb yb eb gl n l) (D : OrdD cb base ob lb yb eb gl) (k : KpC cb W W') {v : Value} (hv : W.cell? ⟨ob, 0, none⟩ = some v) : OrdT W' ob lb yb eb gl n l := by
  have hc := D.hcb
  exact ⟨k.cell (Ne.symm hc.2.1) h.lst, fun j hj => k.cell (Ne.symm hc.2.2.2.2) (h.arr j hj), k.cell (Ne.symm hc.2.2.1) h.yld, k.cell (Ne.symm hc.2.2.2.1) h.ext,
    (frozen_of_block (k.block (p := ⟨ob, 0, none⟩) (Ne.symm hc.1) hv)).trans h.frz⟩
def ExtP (J : List (List Nat) → World → Prop) (done : List (List Nat)) (base ob lb yb eb gl n l : Nat) (pre : List Nat) (e : Ending) (w' : World) : Prop :=
  e = .returned (.bool true) ∧ J done w' ∧ OrdT w' ob lb yb eb gl n l ∧ OrdO w' base ob pre ∧ base ≤ w'.heap.size
set_option maxHeartbeats 2000000 in
theorem extend_zero {n : Nat} (base ob lb yb eb gl l cb : Nat) (D : OrdD cb base ob lb yb eb gl) (J : List (List Nat) → World → Prop)
    (hY : ∀ done x v W1, J done W1 → Rd W1 v (nI x) → x ∈ ordL n → YieldAt Fence.wide 0 Tryd.prog l #[v] W1 fun e W' => e = .returned (.bool true) ∧ J (done ++ [x]) W' ∧ KpC cb W1 W')
    (pre : List Nat) (done : List (List Nat)) (W : World) (hp : pre ∈ ordL n) (hW : base ≤ W.heap.size) (hj : J done W) (T : OrdT W ob lb yb eb gl n l) (O : OrdO W base ob pre) :
    Calls Tryd.prog 74 #[.pointer (some ⟨ob, 0, none⟩), .pointer (some ⟨lb, 0, none⟩), .pointer (some ⟨yb, 0, none⟩), .pointer (some ⟨eb, 0, none⟩)] W (ExtP J (done ++ [pre]) base ob lb yb eb gl n l pre) := by
  obtain ⟨v, hv, ho⟩ := O
  have hl : pre.length = n := (mem_ordL.1 hp).1
  obtain ⟨fn, tmps, assign, body, hy, hR⟩ := YieldAt.any (m' := 0) (hY done pre v W hj ho.rd hp)
  obtain ⟨A, c, rfl, -, -, -⟩ := ho.form
  rw [nI_len, hl] at hv hy ho
  have HT := Lib.hid T
  have HO := Lib.hid ho
  have HV := Lib.hid hv
  have l1 := T.lst
  have l2 := T.yld
  clear T ho hl
  refine callsIn_wide.1 (callsIn_of_wp (n := 0) Tryd.func74 rfl trivial ?_ rfl)
  simp only [Tryd.ntmps74, List.size_toArray, List.length_cons, List.length_nil, Nat.reduceAdd, Nat.reduceSub, Array.replicate_succ, Array.replicate_zero, List.push_toArray, List.append_toArray, List.nil_append, List.cons_append]
  gi_wp2_with (refine ⟨rfl, ?_⟩; refine hR.mono ?_; clear hR; rintro e W1 ⟨rfl, hj1, hk1⟩)

  go_ret
  exact ⟨rfl, hj1, HT.out.kpc D hk1 HV.out, ⟨_, hk1.cell (Ne.symm D.hcb.1) HV.out, own_kpc HO.out hk1 D.hbs.1⟩, Nat.le_trans hW hk1.size⟩
theorem ordFrom_succ (n m : Nat) (pre : List Nat) : ordFrom n (m + 1) pre = ((List.range n).filter fun b => !pre.contains b).flatMap fun b => ordFrom n m (pre ++ [b]) := rfl
/-- what has come before the k-th -/
def ordK (n m : Nat) (pre : List Nat) (k : Nat) : List (List Nat) := ((List.range k).filter fun b => !pre.contains b).flatMap fun b => ordFrom n m (pre ++ [b])
theorem ordK_no {n m k : Nat} {pre : List Nat} (h : pre.contains k = true) : ordK n m pre (k + 1) = ordK n m pre k := by
  have : k ∈ pre := by simpa using h
  unfold ordK; rw [List.range_succ, List.filter_append]; simp [this]
theorem ordK_yes {n m k : Nat} {pre : List Nat} (h : pre.contains k = false) : ordK n m pre (k + 1) = ordK n m pre k ++ ordFrom n m (pre ++ [k]) := by
  have : k ∉ pre := by simpa using h
  unfold ordK; rw [List.range_succ, List.filter_append]; simp [this]
theorem contains_nI (pre : List Nat) (k : Nat) : containsI (nI pre) (k : Int) = pre.contains k := by
  have h : ((k : Nat) : Int) ∈ nI pre ↔ k ∈ pre := by
    unfold nI
    rw [List.mem_map]
    constructor
    · rintro ⟨a, ha, e⟩
      have e : a = k := by omega
      rw [← e]; exact ha
    · intro h; exact ⟨k, h, rfl⟩
  unfold containsI
  rw [Bool.eq_iff_iff]
  simpa using h
set_option maxHeartbeats 4000000 in
theorem extend_any {n : Nat} (hn : n ≤ 8) (base ob lb yb eb gl l cb B0 : Nat) (D : OrdD cb base ob lb yb eb gl) (J : List (List Nat) → World → Prop) (hJ : AbN B0 J) (hB0 : B0 ≤ ob ∧ B0 ≤ base)
    (hY : ∀ done x v W1, J done W1 → Rd W1 v (nI x) → x ∈ ordL n → YieldAt Fence.wide 0 Tryd.prog l #[v] W1 fun e W' => e = .returned (.bool true) ∧ J (done ++ [x]) W' ∧ KpC cb W1 W') :
    ∀ (m : Nat) (pre : List Nat) (done : List (List Nat)) (W : World), pre.length + m = n → pre.Nodup → (∀ x ∈ pre, x < n) → base ≤ W.heap.size → J done W → OrdT W ob lb yb eb gl n l → OrdO W base ob pre →
    Calls Tryd.prog 74 #[.pointer (some ⟨ob, 0, none⟩), .pointer (some ⟨lb, 0, none⟩), .pointer (some ⟨yb, 0, none⟩), .pointer (some ⟨eb, 0, none⟩)] W (ExtP J (done ++ ordFrom n m pre) base ob lb yb eb gl n l pre) := by
  intro m
  induction m with
  | zero =>
    intro pre done W hl hd hx hW hj T O
    exact extend_zero base ob lb yb eb gl l cb D J hY pre done W (mem_ordL.2 ⟨by omega, hx, hd⟩) hW hj T O
  | succ m ih =>
    intro pre done W hl hd hx hW hj T O
    have IH := Lib.hid ih
    have HYY := Lib.hid hY
    have HJ := Lib.hid hJ
    have HJ0 := Lib.hid hj
    have HX := Lib.hid hx
    have HD := Lib.hid hd
    clear ih hY hJ hj hx hd
    obtain ⟨q, hq⟩ : ∃ q, pre.length = q := ⟨_, rfl⟩
    obtain ⟨v, hv, ho⟩ := O
    obtain ⟨A, c, rfl, hcm, hlc, -⟩ := ho.form
    rw [nI_len, hq] at hv ho hlc
    have hqn : (((q : Nat) : Int) == ((n : Nat) : Int)) = false := by simp; omega
    have HQ := Lib.hid hq
    have HO := Lib.hid ho
    have HT := Lib.hid T
    have l1 := T.lst
    have HV := Lib.hid hv
    have hl2 : q + (m + 1) = n := by rw [← hq]; exact hl
    have hW0 : ob < W.heap.size := Nat.lt_of_lt_of_le D.hbs.2.1 hW
    have HSUC := Lib.hid (ordFrom_succ n m pre)
    have HK0 : Hid (J (done ++ ordK n m pre 0) W) := by unfold Hid ordK; simpa using HJ0.out
    clear T ho hq hl
    go_enter Tryd.func74, Tryd.ntmps74
    go_wp2
    clear l1 hv
    go_loopw [18] (fun i wr => ∃ k : Nat, k ≤ n ∧ i = .int .i64 k ∧ Hid (J (done ++ ordK n m pre k) wr) ∧ Hid (OrdT wr ob lb yb eb gl n l) ∧ Hid (OrdO wr base ob pre) ∧ base ≤ wr.heap.size) (fun i _ => n - (intOf i).toNat)
    case atStart => exact ⟨0, by omega, rfl, HK0.out, HT.out, ⟨_, HV.out, HO.out⟩, hW⟩
    case round =>
      obtain ⟨wo, rfl⟩ : ∃ x, x = wr := ⟨_, rfl⟩
      obtain ⟨k, hk, rfl, HJK, HTK, HOK, hwk⟩ := hrel
      by_cases hlt : k < n
      · obtain ⟨vk, hvk, hok⟩ := HOK.out
        have ck := HTK.out.arr k hlt
        have hobw : ob < wo.heap.size := Nat.lt_of_lt_of_le D.hbs.2.1 hwk
        have HVK := Lib.hid hvk
        have HOW := Lib.hid hok
        rcases hc : pre.contains k with _ | _
        · have hcc : containsI (nI pre) (k : Int) = false := (contains_nI pre k).trans hc
          have HC := Lib.hid hc
          clear hc hok
          have hkm : (k : Nat) ∉ pre := by simpa using HC.out
          have HPL : Hid ((pre ++ [k]).length + m = n) := by unfold Hid; rw [List.length_append, HQ.out]; simp; omega
          have HPN : Hid ((pre ++ [k]).Nodup) := by
            unfold Hid
            rw [List.nodup_append]
            exact ⟨HD.out, by simp, fun x hx y hy => by rw [List.mem_singleton] at hy; subst hy; intro e; subst e; exact hkm hx⟩
          have HPX : Hid (∀ x ∈ pre ++ [k], x < n) := fun x hx => by
            rw [List.mem_append, List.mem_singleton] at hx
            rcases hx with hx | rfl
            · exact HX.out x hx
            · exact hlt
          have hlen1 : (nI pre).length ≤ 1099511627776 := by rw [nI_len, HQ.out]; omega
          have HSN : Hid ((nI pre ++ [(k : Int)]).length = q + 1) := by unfold Hid; rw [List.length_append, nI_len, HQ.out]; rfl
          have HSN2 : Hid ((nI (pre ++ [k])).length = q + 1) := by unfold Hid; rw [nI_snoc]; exact HSN.out
          clear hkm
          go_wp2_with (first
            | (go_at_call 43; refine (contains_any _ (nI pre) _ _ HOW.out.rd).mono ?_; rintro e w1 ⟨rfl, rfl⟩)
            | (at_builtin; refine wp_append1 _ rfl (.tmp 25) (.tmp 27) rfl base _ (nI pre) (k : Int) rfl HOW.out (by simp [Act.eval]) hlen1 hwk ?_; intro v5 w5 hown1 hg1
               obtain ⟨A5, c5, rfl, -, -, -⟩ := hown1.form
               rw [HSN.out] at hown1 ⊢
               have HO5 := Lib.hid hown1
               have HT5 := Lib.hid (HTK.out.grown D hg1 (fun r hr => (HOW.out.lt r hr).1) hobw)
               have v5 := (World.cell?_of_block (a := ⟨ob, 0, none⟩) (hg1.block ob hobw (fun e => by have h1 := (HOW.out.lt _ e.symm).1; have h2 := D.hbs.2.1; omega))).trans HVK.out
               have f5 := HT5.out.frz
               have e6 := (HT5.out.setOb D (.slice A5 (q + 1) c5)).ext
               have HJ6 := Lib.hid (HJ.out _ _ _ _ (HJ.out _ _ _ _ HJK.out hg1 (fun r hr => Nat.le_trans hB0.2 (HOW.out.lt r hr).1)) (setCell_grown w5 ⟨ob, 0, none⟩ (.slice A5 (q + 1) c5)) (fun r hr => by injection hr with hr; rw [← hr]; exact hB0.1))
               have HO6 := Lib.hid (show OrdO (w5.setCell ⟨ob, 0, none⟩ (.slice A5 (q + 1) c5)) base ob (pre ++ [k]) from ⟨_, World.cell?_setCell_same _ _ _ v5, by rw [nI_snoc]; exact HO5.out.kept (setCell_grown w5 ⟨ob, 0, none⟩ _) (own_ne (fun r hr => (HO5.out.lt r hr).1) D.hbs.2.1)⟩)
               have hs6 : base ≤ (w5.setCell ⟨ob, 0, none⟩ (.slice A5 (q + 1) c5)).heap.size := by have := hg1.size; simp; omega
               clear hown1 hg1)
            | (go_at_call 74; refine (IH.out (pre ++ [k]) (done ++ ordK n m pre k) _ HPL.out HPN.out HPX.out hs6 HJ6.out (HT5.out.setOb D _) HO6.out).mono ?_
               rintro e w7 ⟨rfl, hj7, ht7, ⟨v7, hv7, ho7⟩, hs7⟩
               obtain ⟨A7, c7, rfl, -, hlc7, hA7⟩ := ho7.form
               rw [HSN2.out] at hv7 ho7 hlc7 hA7
               obtain ⟨g7, rfl, -, -⟩ := hA7 (by omega)
               have HJ7 := Lib.hid hj7
               have HT7 := Lib.hid ht7
               have HO7 := Lib.hid ho7
               have HV7 := Lib.hid hv7
               have f7 := ht7.frz
               clear v5 f5 e6 hj7 ht7 ho7 hA7))
          go_roundw
          case rel =>
            have hg8 := setCell_grown w7 ⟨ob, 0, none⟩ (.slice (some ⟨g7, 0, none⟩) q c7)
            refine ⟨k + 1, by omega, by go_num, ?_, HT7.out.setOb D _, ⟨_, World.cell?_setCell_same _ _ _ HV7.out, ?_⟩, by simp; exact hs7⟩
            · have := HJ.out _ _ _ _ HJ7.out hg8 (fun r hr => by injection hr with hr; rw [← hr]; exact hB0.1)
              rw [List.append_assoc, ← ordK_yes HC.out] at this
              exact this
            · have h7 := HO7.out
              rw [nI_snoc] at h7
              exact (own_prefix (by rw [nI_len]; exact HQ.out) h7).kept hg8 (own_ne (fun r hr => (HO7.out.lt r hr).1) D.hbs.2.1)
          case measure => simp [intOf]; omega
        · have hcc : containsI (nI pre) (k : Int) = true := (contains_nI pre k).trans hc
          have HC := Lib.hid hc
          clear hc hok
          go_wp2_with (go_at_call 43; refine (contains_any _ (nI pre) _ _ HOW.out.rd).mono ?_; rintro e w1 ⟨rfl, rfl⟩)
          go_roundw
          case rel => exact ⟨k + 1, by omega, by go_num, by rw [ordK_no HC.out]; exact HJK.out, HTK.out, HOK.out, hwk⟩
          case measure => simp [intOf]; omega
      · obtain rfl : n = k := by omega
        go_wp2
        go_ret
        exact ⟨rfl, HJK.out, HTK.out, HOK.out, hwk⟩
theorem ordFrom_zero (n : Nat) : ordFrom n n [] = ordL n := rfl
theorem three_new (W : World) (a b c : Value) (t u v : TypeId) :
    (((W.alloc (.cells #[a] t)).alloc (.cells #[b] u)).alloc (.cells #[c] v)).cell? ⟨W.heap.size, 0, none⟩ = some a ∧ (((W.alloc (.cells #[a] t)).alloc (.cells #[b] u)).alloc (.cells #[c] v)).cell? ⟨W.heap.size + 1, 0, none⟩ = some b ∧
    (((W.alloc (.cells #[a] t)).alloc (.cells #[b] u)).alloc (.cells #[c] v)).cell? ⟨W.heap.size + 1 + 1, 0, none⟩ = some c ∧ (((W.alloc (.cells #[a] t)).alloc (.cells #[b] u)).alloc (.cells #[c] v)).frozen? ⟨W.heap.size + 1, 0, none⟩ = false := by
  have h1 := cell_new1 W a t
  have h2 := cell_new1 (W.alloc (.cells #[a] t)) b u
  have h3 := cell_new1 ((W.alloc (.cells #[a] t)).alloc (.cells #[b] u)) c v
  have f2 : ((W.alloc (.cells #[a] t)).alloc (.cells #[b] u)).frozen? ⟨(W.alloc (.cells #[a] t)).heap.size, 0, none⟩ = false := by simp
  simp only [World.size_alloc] at h2 h3 f2
  have s2 : W.heap.size < (W.alloc (.cells #[a] t)).heap.size := by simp
  have s3 : W.heap.size + 1 < ((W.alloc (.cells #[a] t)).alloc (.cells #[b] u)).heap.size := by simp
  have b2 := below_alloc1 (W.alloc (.cells #[a] t)) (.cells #[b] u)
  have b3 := below_alloc1 ((W.alloc (.cells #[a] t)).alloc (.cells #[b] u)) (.cells #[c] v)
  exact ⟨(b3.cell (p := ⟨W.heap.size, 0, none⟩) (Nat.lt_trans (Nat.lt_succ_self _) s3)).trans ((b2.cell (p := ⟨W.heap.size, 0, none⟩) s2).trans h1), (b3.cell (p := ⟨W.heap.size + 1, 0, none⟩) s3).trans h2, h3, (b3.frozen (p := ⟨W.heap.size + 1, 0, none⟩) s3).trans f2⟩
theorem orders_any (A : Option Addr) (n c : Nat) (w : World) :
    Calls Tryd.prog 47 #[.slice A n c] w fun e w' => e = .returned (.func (.func 73) #[] #[.pointer (some ⟨w.heap.size, 0, none⟩)]) ∧ w' = w.alloc (.cells #[.slice A n c] 23) := by
  go_enter Tryd.func47, Tryd.ntmps47
  go_wp2
  go_ret
  exact ⟨rfl, rfl⟩
set_option maxHeartbeats 2000000 in
/-- the iterator gives all orders, in depth first order -/
theorem orders_all {n : Nat} (hn : n ≤ 8) (lb gl cb : Nat) (w0 : World) (hgl : gl < w0.heap.size) (hlb : lb < w0.heap.size) (hcb : cb < w0.heap.size) (hne : cb ≠ lb ∧ cb ≠ gl)
    (h1 : w0.cell? ⟨lb, 0, none⟩ = some (.slice (some ⟨gl, 0, none⟩) n n)) (h2 : ∀ k, k < n → w0.cell? ⟨gl, k, none⟩ = some (.int .i64 (k : Nat))) :
    SeqAll Tryd.prog 73 #[.pointer (some ⟨lb, 0, none⟩)] cb (fun W (x : List Nat) v => Rd W v (nI x)) (ordL n) w0 := by
  intro l J W hB hJ hY h0
  have hsz := hB.size
  have D : OrdD cb (W.heap.size + 1 + 1 + 1) (W.heap.size + 1) lb W.heap.size (W.heap.size + 1 + 1) gl := ⟨⟨by omega, hne.1, by omega, by omega, hne.2⟩, ⟨by omega, by omega, by omega, by omega⟩, ⟨by omega, by omega, by omega, by omega, by omega, by omega⟩⟩
  have l1 := (hB.cell (p := ⟨lb, 0, none⟩) hlb).trans h1
  have l2 : ∀ k, k < n → W.cell? ⟨gl, k, none⟩ = some (.int .i64 (k : Nat)) := fun k hk => (hB.cell (p := ⟨gl, k, none⟩) hgl).trans (h2 k hk)
  have E := Lib.hid (extend_any hn (W.heap.size + 1 + 1 + 1) (W.heap.size + 1) lb W.heap.size (W.heap.size + 1 + 1) gl l cb W.heap.size D J hJ ⟨by omega, by omega⟩ hY n [] [])
  have HJ := Lib.hid hJ
  have HJ0 := Lib.hid h0
  have HL1 := Lib.hid l1
  have HL2 := Lib.hid l2
  clear hJ hY h0 l1 l2 h1 h2
  go_enter Tryd.func73, Tryd.ntmps73
  go_wp2_with fail
  have hb3 := ((below_alloc1 W (.cells #[.func (.yield l) #[] #[]] 61)).alloc (by simp) (.cells #[.slice none 0 0] 23)).alloc (by simp; omega) (.cells #[.func (.func 74) #[] #[.pointer (some ⟨W.heap.size + 1, 0, none⟩), .pointer (some ⟨lb, 0, none⟩), .pointer (some ⟨W.heap.size, 0, none⟩), .pointer (some ⟨W.heap.size + 1 + 1, 0, none⟩)]] 85)
  have T3 : OrdT (((W.alloc (.cells #[.func (.yield l) #[] #[]] 61)).alloc (.cells #[.slice none 0 0] 23)).alloc (.cells #[.func (.func 74) #[] #[.pointer (some ⟨W.heap.size + 1, 0, none⟩), .pointer (some ⟨lb, 0, none⟩), .pointer (some ⟨W.heap.size, 0, none⟩), .pointer (some ⟨W.heap.size + 1 + 1, 0, none⟩)]] 85)) (W.heap.size + 1) lb W.heap.size (W.heap.size + 1 + 1) gl n l := ⟨(hb3.cell (p := ⟨lb, 0, none⟩) (by show lb < _; omega)).trans HL1.out, fun k hk => (hb3.cell (p := ⟨gl, k, none⟩) (by show gl < _; omega)).trans (HL2.out k hk), (three_new _ _ _ _ _ _ _).1, (three_new _ _ _ _ _ _ _).2.2.1, (three_new _ _ _ _ _ _ _).2.2.2⟩
  have O3 : OrdO (((W.alloc (.cells #[.func (.yield l) #[] #[]] 61)).alloc (.cells #[.slice none 0 0] 23)).alloc (.cells #[.func (.func 74) #[] #[.pointer (some ⟨W.heap.size + 1, 0, none⟩), .pointer (some ⟨lb, 0, none⟩), .pointer (some ⟨W.heap.size, 0, none⟩), .pointer (some ⟨W.heap.size + 1 + 1, 0, none⟩)]] 85)) (W.heap.size + 1 + 1 + 1) (W.heap.size + 1) [] := ⟨.slice none 0 0, (three_new _ _ _ _ _ _ _).2.1, Own.nil_ _ _⟩
  have J3 : J [] (((W.alloc (.cells #[.func (.yield l) #[] #[]] 61)).alloc (.cells #[.slice none 0 0] 23)).alloc (.cells #[.func (.func 74) #[] #[.pointer (some ⟨W.heap.size + 1, 0, none⟩), .pointer (some ⟨lb, 0, none⟩), .pointer (some ⟨W.heap.size, 0, none⟩), .pointer (some ⟨W.heap.size + 1 + 1, 0, none⟩)]] 85)) := HJ.out.alloc _ (HJ.out.alloc _ (HJ.out.alloc _ HJ0.out))
  refine (E.out (((W.alloc (.cells #[.func (.yield l) #[] #[]] 61)).alloc (.cells #[.slice none 0 0] 23)).alloc (.cells #[.func (.func 74) #[] #[.pointer (some ⟨W.heap.size + 1, 0, none⟩), .pointer (some ⟨lb, 0, none⟩), .pointer (some ⟨W.heap.size, 0, none⟩), .pointer (some ⟨W.heap.size + 1 + 1, 0, none⟩)]] 85)) (by simp) (by simp) (by simp) (by simp) J3 T3 O3).mono ?_
  rintro e w4 ⟨rfl, hj4, -, -, -⟩
  have HJ4 := Lib.hid hj4
  clear E HJ hb3 T3 O3 J3 hj4
  go_wp2
  go_end0
  exact ⟨⟨_, rfl⟩, HJ4.out⟩
end Go.Proofs.YthoodjjjklbggaaDoor

namespace Go.Proofs.YthoodjjjklbggaaDoor
open Go.RowKit Go.Sort
set_option maxRecDepth 100000
/-- what is said of a world, and of the blocks that must stay, outlives new blocks and turns of other blocks from B on -/
def AbP {β : Type} (B : Nat) (J : β → (Nat → Prop) → World → Prop) : Prop := ∀ s Pt W W' row, J s Pt W → W.grownBy W' row → (∀ r, row = some r → B ≤ r ∧ ¬ Pt r) → J s Pt W'
def SeqAllP {β : Type} (P : Program) (gf : Nat) (lb : Array Value) (cb : Nat) (En : World → β → Value → Prop) (all : List β) (w0 : World) : Prop :=
  ∀ (l : Nat) (J : List β → (Nat → Prop) → World → Prop) (W : World), Below w0.heap.size w0 W → AbP W.heap.size J →
    (∀ pre Pt x v W1, J pre Pt W1 → (∀ r, Pt r → r < W1.heap.size ∧ W.heap.size ≤ r) → En W1 x v → x ∈ all → YieldAt Fence.wide 0 P l #[v] W1 fun e W' => e = .returned (.bool true) ∧ ∃ Pt', J (pre ++ [x]) Pt' W' ∧ (∀ r, Pt' r → r < W'.heap.size ∧ (Pt r ∨ W1.heap.size ≤ r)) ∧ KpC cb W1 W') →
    J [] (fun _ => False) W → Calls P gf (#[.func (.yield l) #[] #[]] ++ lb) W fun e W' => (∃ v, e = .returned v) ∧ ∃ Pt, J all Pt W'
def postP {β : Type} (cb : Nat) (I : List β → (Nat → Prop) → World → Prop) (xs : List β) (Pt : Nat → Prop) (W : World) : Exit → Act → World → Prop
  | .normal, _, W' => W.grownBy W' (some cb) ∧ ∃ Pt', I xs Pt' W' ∧ (∀ r, Pt' r → r < W'.heap.size ∧ (Pt r ∨ W.heap.size ≤ r))
  | .ret, _, _ => False
  | .exit _, _, _ => False
  | .goto _, _, _ => False
  | .panic _, _, _ => False
  | .outgrown, _, _ => False
theorem AbP.putObj {β : Type} {B : Nat} {I : β → (Nat → Prop) → World → Prop} (h : AbP B I) {s : β} {Pt : Nat → Prop} {W : World} {l : Nat} (o' : Obj) (hs : I s Pt W) (hB : B ≤ l) (hp : ¬ Pt l) : I s Pt (W.putObj l o') :=
  h s Pt W _ (some l) hs (grownBy_putObj' W l o') (fun r e => by cases e; exact ⟨hB, hp⟩)
theorem AbP.alloc {β : Type} {B : Nat} {I : β → (Nat → Prop) → World → Prop} (h : AbP B I) {s : β} {Pt : Nat → Prop} {W : World} (o : Obj) (hs : I s Pt W) : I s Pt (W.alloc o) :=
  h s Pt W _ none hs (World.grownBy_alloc W o none) (fun r e => by cases e)
theorem wp_rangeFunc_allP {P : Program} {β : Type} {g : Operand} {ps : Array Tmp} {assign body : Code} {Q : Exit → Act → World → Prop} {a : Act} {w : World} {gf : Nat} {lb : Array Value} (hg : a.eval g = .func (.func gf) #[] lb) (eg : ∀ args w, (callFunc gf args).run P w = .ok (.enter gf args) w)
    {cb : Nat} {En : World → β → Value → Prop} {all : List β} {w0 : World} (hseq : SeqAllP P gf lb cb En all w0) (hb0 : Below w0.heap.size w0 w) (hcb : cb < w.heap.size) (hps : ps.size = 1)
    (hEn : ∀ W l o o' x v, W.heap[l]? = some o → o.isCells = false → En W x v → En (W.putObj l o') x v)
    (I : List β → (Nat → Prop) → World → Prop) (hI : AbP w.heap.size I) (h0 : I [] (fun _ => False) w) (a₁ : Value → Act)
    (hassign : ∀ (l : Nat) (v : Value) (W : World) (K : Act → World → Prop), K (a₁ v) W →
      assign.wpIn (Fence.wide.inRound l) 0 P (Exit.then K (fun _ _ _ => False)) { tmps := (ps.zip #[v]).foldl (fun t (p, v) => t.setIfInBounds p v) a.tmps, defers := [] } W)
    (hbody : ∀ (l : Nat) (pre : List β) (Pt : Nat → Prop) (x : β) (v : Value) (W : World), I pre Pt W → (∀ r, Pt r → r < W.heap.size ∧ w.heap.size + 1 < r) → En W x v → x ∈ all → w.heap.size ≤ W.heap.size → body.wpIn (Fence.wide.inRound l) 0 P (postP cb I (pre ++ [x]) Pt W) (a₁ v) W)
    (hdone : ∀ (D : Nat) (Pt : Nat → Prop) (W : World), w.heap.size ≤ D → I all Pt W → W.heap[D]? = some (.deferred (some [])) → Q .normal { a with defers := { target := .collected D, args := #[] } :: a.defers } W) :
    (Code.rangeFunc g ps assign body).wp P Q a w := by
  refine (wpIn_wide (n := 1)).1 (wpIn_rangeFunc ?_)
  intro fn hfn
  rw [show Fence.wide.round = none from rfl]
  obtain ⟨rec, hrec⟩ : ∃ rec : LoopState → Option Code → Loop, rec = fun st pe => { state := st, pending := pe, fn, tmps := a.tmps, params := ps, assign, body, defers := w.heap.size } := ⟨_, rfl⟩
  obtain ⟨W1, hW1⟩ : ∃ W1, (w.alloc (.deferred (some []))).alloc (.loop (rec .ready none)) = W1 := ⟨_, rfl⟩
  have hsz1 : W1.heap.size = w.heap.size + 1 + 1 := by rw [← hW1]; simp
  have hL1 : W1.heap[w.heap.size + 1]? = some (.loop (rec .ready none)) := by
    rw [← hW1]
    have := World.alloc_heap_new (w.alloc (.deferred (some []))) (.loop (rec .ready none))
    rwa [World.size_alloc] at this
  have hK1 : W1.heap[w.heap.size]? = some (.deferred (some [])) := by
    rw [← hW1]; exact (Below.heap_alloc _ _ _ (by simp)).trans (World.alloc_heap_new w _)
  have hI1 : I [] (fun _ => False) W1 := by rw [← hW1]; exact hI.alloc _ (hI.alloc _ h0)
  have hb1 : Below w0.heap.size w0 W1 := by
    rw [← hW1]; exact hb0.trans ((((Below.refl _ w).alloc (Nat.le_refl _) _).alloc (by simp) _).mono hb0.size)
  refine ⟨w.heap.size + 1, [{ target := .collected w.heap.size, args := #[] }], W1, { target := .fn (.func gf) lb, args := #[.func (.yield (w.heap.size + 1)) #[] #[]] }, W1, gf,
    #[.func (.yield (w.heap.size + 1)) #[] #[]] ++ lb, W1, ?_, ?_, fun _ _ => trivial, ?_, (fun h => by cases h), callsIn_wide.2 ?_⟩
  · rw [← hW1, hrec]; exact run_enterLoop_outer _ _ _ _ _
  · simp only [resolve, hg]
    simp [go_sem]
  · simp [invoke, go_sem, eg]
  · refine (hseq (w.heap.size + 1)
      (fun pre Pt W => (I pre Pt W ∧ ∀ r, Pt r → w.heap.size + 1 < r) ∧ W.heap[w.heap.size + 1]? = some (.loop (rec .ready none)) ∧ W.heap[w.heap.size]? = some (.deferred (some [])))
      W1 hb1 (fun s Pt A B row hs hg' hr => ?_) ?_ ⟨⟨hI1, fun _ h => h.elim⟩, hL1, hK1⟩).mono ?_
    · have k : ∀ (i : Nat) (o : Obj), i < W1.heap.size → A.heap[i]? = some o → B.heap[i]? = some o := fun i o hi ho =>
        (hg'.block i (Array.getElem?_eq_some_iff.1 ho).1 (fun e => by have := (hr i e.symm).1; omega)).trans ho
      exact ⟨⟨hI s Pt A B row hs.1.1 hg' (fun r e => ⟨by have := (hr r e).1; omega, (hr r e).2⟩), hs.1.2⟩, k _ _ (by omega) hs.2.1, k _ _ (by omega) hs.2.2⟩
    · rintro pre Pt x v W ⟨⟨hi, hpb⟩, hl, hk⟩ hpt hen hmem
      have hlt : w.heap.size + 1 < W.heap.size := (Array.getElem?_eq_some_iff.1 hl).1
      have hy := run_yield (P := P) (args := #[v]) hl (by rw [hrec]; exact hps.symm)
      rw [hrec] at hy
      refine ⟨fn, _, assign, body, hy, roundIn_of_wpIn hfn (hassign _ v W _ ⟨_, run_beginRound hl (by rw [hrec]), ?_⟩)⟩
      have hl2 : (W.putObj (w.heap.size + 1) (.loop { rec .ready none with state := .busy })).heap[w.heap.size + 1]? = some (.loop { rec .ready none with state := .busy }) := World.putObj_heap_same hlt
      have hk2 : (W.putObj (w.heap.size + 1) (.loop { rec .ready none with state := .busy })).heap[w.heap.size]? = some (.deferred (some [])) := (World.putObj_heap_other (by omega)).trans hk
      refine wpIn_mono (hbody _ pre Pt x v _ (hI.putObj _ hi (by omega) (fun h => by have := (hpt _ h).2; omega)) (fun r h => ⟨by simpa using (hpt r h).1, by have := (hpt r h).2; omega⟩) (hEn _ _ _ _ _ _ hl rfl hen) hmem (by simp; omega)) ?_
      rintro e a3 W3 hp
      cases e with
      | normal =>
        obtain ⟨hg3, Pt3, hi3, hp3⟩ := hp
        have hn3 : ∀ r, Pt3 r → w.heap.size + 1 < r := fun r h => by
          rcases (hp3 r h).2 with h1 | h1
          · have := (hpt r h1).2; omega
          · simp at h1; omega
        have hl3 : W3.heap[w.heap.size + 1]? = some (.loop { rec .ready none with state := .busy }) := (hg3.block _ (by simp; omega) (fun e => by injection e; omega)).trans hl2
        have hk3 : W3.heap[w.heap.size]? = some (.deferred (some [])) := (hg3.block _ (by simp; omega) (fun e => by injection e; omega)).trans hk2
        have hr := run_endRound (P := P) none hl3
        refine ⟨_, _, hr, rfl, Pt3, ⟨⟨hI.putObj _ hi3 (by omega) (fun h => by have := hn3 _ h; omega), hn3⟩, ?_, (World.putObj_heap_other (by omega)).trans hk3⟩, fun r h => ⟨by simpa using (hp3 r h).1, by simpa using (hp3 r h).2⟩, ?_⟩
        · rw [World.putObj_heap_same (Array.getElem?_eq_some_iff.1 hl3).1, hrec]; rfl
        · exact ((KpC.of_put _ hl rfl).trans (KpC.of_grown hg3)).trans (KpC.of_put _ hl3 rfl)
      | ret => exact hp.elim
      | exit id => exact hp.elim
      | goto t => exact hp.elim
      | panic ch => exact hp.elim
      | outgrown => exact hp.elim
    · rintro e W2 ⟨⟨v, rfl⟩, Pt, ⟨hi, hpt⟩, hl, hk⟩
      exact ⟨none, _, by have := run_endLoop (P := P) hl (by rw [hrec]; simp); rw [hrec] at this; exact this, hdone _ _ _ (Nat.le_refl _) (hI.putObj _ hi (by omega) (fun h => by have := hpt _ h; omega)) ((World.putObj_heap_other (by omega)).trans hk)⟩
end Go.Proofs.YthoodjjjklbggaaDoor

namespace Go.Proofs.YthoodjjjklbggaaDoor
open Go.RowKit Go.Sort
set_option maxRecDepth 100000
attribute [local go_sem] Oper.semAt_some
theorem wp_append1a {ops : Array Oper} {rest : List Oper} {o : Oper} {a : Act} {Q : Exit → Act → World → Prop} (w : World) (hgd : o.guard = none) (s x : Operand)
    (ho : o.op = .call { callee := .builtin .append, args := #[s, x], argTypes := #[23, 23] })
    (base : Nat) (v : Value) (xs : List Int) (y : Int) (hs : a.eval s = v) (hown : Own w base v xs) (hx : a.eval x = .slice (some ⟨w.heap.size, 0, none⟩) 1 1)
    (hlen : xs.length ≤ 1099511627776) (hbase : base ≤ w.heap.size)
    (h : ∀ v' w', Own w' base v' (xs ++ [y]) → w.grownBy w' v.ownBlock → (∀ r, v'.ownBlock = some r → v.ownBlock = some r ∨ w.heap.size ≤ r) → wpList Tryd.prog ops Q rest (a.put o.dst v') w') :
    wpList Tryd.prog ops Q (o :: rest) a (w.alloc (.cells #[.int .i64 y] 3)) := by
  obtain ⟨i0, hi, hz0, hz1, hz2⟩ := info_parts i64_info
  have hown' : (w.alloc (.cells #[.int .i64 y] 3)).ownsRow base 3 1 v xs.length (xs.map (Value.int .i64)) := World.ownsRow.alloc hown _
  have hnews : ∀ j u, [Value.int .i64 y][j]? = some u → (w.alloc (.cells #[.int .i64 y] 3)).cell? ((⟨w.heap.size, 0, none⟩ : Addr).add j) = some u := by
    intro j u hj
    match j, hj with
    | 0, hj => simp at hj; subst hj; simp [Addr.add]
  have h1 : ∀ u ∈ [Value.int .i64 y], u.oneCell' = true := by intro u hu; simp at hu; subst hu; rfl
  obtain ⟨v', w', hr, h2, h3, -, h5⟩ := run_append_own_at (P := Tryd.prog) (w.alloc (.cells #[.int .i64 y] 3)) base 23 o.type 3 i0 (.int .i64 0) 1 8 Tryd.underlying23 hi hz0 hz1 hz2 rfl (by decide) v xs.length (xs.map (Value.int .i64)) hown' ⟨w.heap.size, 0, none⟩ 1 1 [.int .i64 y] rfl hnews h1 (by unfold maxLen; omega) (by omega) (by simp; omega)
  refine wpList_plain hgd fun K hK => ?_
  unfold Oper.wp execOp
  simp only [ho, resolve, invoke, builtin, Sem.run_bind, Sem.run_pure, Result.andThen_ok, List.map_toArray, List.map_cons, List.map_nil, hs, hx, hr]
  refine hK _ _ (h v' w' (by unfold Own; rw [List.length_append, List.map_append]; exact h2) (grown_of_alloc h3) (fun r hr => ?_))
  rcases h5 with e | e
  · exact .inl (by rw [← e]; exact hr)
  · rw [e] at hr; injection hr with hr; simp at hr; exact .inr (by omega)
def OrdQ (W : World) (base ob : Nat) (Pt : Nat → Prop) (pre : List Nat) : Prop := ∃ v, W.cell? ⟨ob, 0, none⟩ = some v ∧ Own W base v (nI pre) ∧ (∀ r, v.ownBlock = some r → ¬ Pt r) ∧ ¬ Pt ob ∧ ∀ r, Pt r → r < W.heap.size
def ExtQ (J : List (List Nat) → (Nat → Prop) → World → Prop) (done : List (List Nat)) (base ob lb yb eb gl n l B0 : Nat) (pre : List Nat) (e : Ending) (w' : World) : Prop :=
  e = .returned (.bool true) ∧ ∃ Pt, J done Pt w' ∧ OrdT w' ob lb yb eb gl n l ∧ OrdQ w' base ob Pt pre ∧ base ≤ w'.heap.size ∧ ∀ r, Pt r → B0 ≤ r
set_option maxHeartbeats 2000000 in
theorem extend_zeroP {n : Nat} (base ob lb yb eb gl l cb B0 : Nat) (hB0 : B0 ≤ base) (D : OrdD cb base ob lb yb eb gl) (J : List (List Nat) → (Nat → Prop) → World → Prop)
    (hY : ∀ done Pt x v W1, J done Pt W1 → (∀ r, Pt r → r < W1.heap.size ∧ B0 ≤ r) → Rd W1 v (nI x) → x ∈ ordL n → YieldAt Fence.wide 0 Tryd.prog l #[v] W1 fun e W' => e = .returned (.bool true) ∧ ∃ Pt', J (done ++ [x]) Pt' W' ∧ (∀ r, Pt' r → r < W'.heap.size ∧ (Pt r ∨ W1.heap.size ≤ r)) ∧ KpC cb W1 W')
    (pre : List Nat) (done : List (List Nat)) (W : World) (hp : pre ∈ ordL n) (hW : base ≤ W.heap.size) (Pt : Nat → Prop) (hpt : ∀ r, Pt r → B0 ≤ r) (hj : J done Pt W) (T : OrdT W ob lb yb eb gl n l) (O : OrdQ W base ob Pt pre) :
    Calls Tryd.prog 74 #[.pointer (some ⟨ob, 0, none⟩), .pointer (some ⟨lb, 0, none⟩), .pointer (some ⟨yb, 0, none⟩), .pointer (some ⟨eb, 0, none⟩)] W (ExtQ J (done ++ [pre]) base ob lb yb eb gl n l B0 pre) := by
  obtain ⟨v, hv, ho, hnv, hno, hps⟩ := O
  have hl : pre.length = n := (mem_ordL.1 hp).1
  obtain ⟨fn, tmps, assign, body, hy, hR⟩ := YieldAt.any (m' := 0) (hY done Pt pre v W hj (fun r h => ⟨hps r h, hpt r h⟩) ho.rd hp)
  obtain ⟨A, c, rfl, -, -, -⟩ := ho.form
  rw [nI_len, hl] at hv hy ho hnv
  have HT := Lib.hid T
  have HO := Lib.hid ho
  have HNV := Lib.hid hnv
  have HNO := Lib.hid hno
  have HPT := Lib.hid hpt
  have HV := Lib.hid hv
  have l1 := T.lst
  have l2 := T.yld
  clear T ho hl hnv hno hps hpt
  refine callsIn_wide.1 (callsIn_of_wp (n := 0) Tryd.func74 rfl trivial ?_ rfl)
  simp only [Tryd.ntmps74, List.size_toArray, List.length_cons, List.length_nil, Nat.reduceAdd, Nat.reduceSub, Array.replicate_succ, Array.replicate_zero, List.push_toArray, List.append_toArray, List.nil_append, List.cons_append]
  gi_wp2_with (refine ⟨rfl, ?_⟩; refine hR.mono ?_; clear hR; rintro e W1 ⟨rfl, Pt1, hj1, hp1, hk1⟩)

  go_ret
  refine ⟨rfl, Pt1, hj1, HT.out.kpc D hk1 HV.out, ⟨_, hk1.cell (Ne.symm D.hcb.1) HV.out, own_kpc HO.out hk1 D.hbs.1, fun r hr hq => ?_, fun hq => ?_, fun r hr => (hp1 r hr).1⟩, Nat.le_trans hW hk1.size, fun r hr => ?_⟩
  · rcases (hp1 r hq).2 with h | h
    · exact HNV.out r hr h
    · have := (HO.out.lt r hr).2; omega
  · rcases (hp1 ob hq).2 with h | h
    · exact HNO.out h
    · have := D.hbs.2.1; omega
  · rcases (hp1 r hr).2 with h | h
    · exact HPT.out r h
    · omega
set_option maxHeartbeats 4000000 in
theorem extend_anyP {n : Nat} (hn : n ≤ 8) (base ob lb yb eb gl l cb B0 : Nat) (D : OrdD cb base ob lb yb eb gl) (J : List (List Nat) → (Nat → Prop) → World → Prop) (hJ : AbP B0 J) (hB0 : B0 ≤ ob ∧ B0 ≤ base)
    (hY : ∀ done Pt x v W1, J done Pt W1 → (∀ r, Pt r → r < W1.heap.size ∧ B0 ≤ r) → Rd W1 v (nI x) → x ∈ ordL n → YieldAt Fence.wide 0 Tryd.prog l #[v] W1 fun e W' => e = .returned (.bool true) ∧ ∃ Pt', J (done ++ [x]) Pt' W' ∧ (∀ r, Pt' r → r < W'.heap.size ∧ (Pt r ∨ W1.heap.size ≤ r)) ∧ KpC cb W1 W') :
    ∀ (m : Nat) (pre : List Nat) (done : List (List Nat)) (Pt : Nat → Prop) (W : World), pre.length + m = n → pre.Nodup → (∀ x ∈ pre, x < n) → base ≤ W.heap.size → (∀ r, Pt r → B0 ≤ r) → J done Pt W → OrdT W ob lb yb eb gl n l → OrdQ W base ob Pt pre →
    Calls Tryd.prog 74 #[.pointer (some ⟨ob, 0, none⟩), .pointer (some ⟨lb, 0, none⟩), .pointer (some ⟨yb, 0, none⟩), .pointer (some ⟨eb, 0, none⟩)] W (ExtQ J (done ++ ordFrom n m pre) base ob lb yb eb gl n l B0 pre) := by
  intro m
  induction m with
  | zero =>
    intro pre done Pt W hl hd hx hW hpt hj T O
    exact extend_zeroP base ob lb yb eb gl l cb B0 hB0.2 D J hY pre done W (mem_ordL.2 ⟨by omega, hx, hd⟩) hW Pt hpt hj T O
  | succ m ih =>
    intro pre done Pt W hl hd hx hW hpt hj T O
    have HPT := Lib.hid hpt
    have IH := Lib.hid ih
    have HYY := Lib.hid hY
    have HJ := Lib.hid hJ
    have HJ0 := Lib.hid hj
    have HX := Lib.hid hx
    have HD := Lib.hid hd
    clear ih hY hJ hj hx hd hpt
    obtain ⟨q, hq⟩ : ∃ q, pre.length = q := ⟨_, rfl⟩
    obtain ⟨v, hv, ho, hnv, hno, hps⟩ := O
    obtain ⟨A, c, rfl, hcm, hlc, -⟩ := ho.form
    rw [nI_len, hq] at hv ho hlc hnv
    have hqn : (((q : Nat) : Int) == ((n : Nat) : Int)) = false := by simp; omega
    have HQ := Lib.hid hq
    have HO := Lib.hid ho
    have HNV := Lib.hid hnv
    have HNO := Lib.hid hno
    have HPS := Lib.hid hps
    have HT := Lib.hid T
    have l1 := T.lst
    have HV := Lib.hid hv
    have hl2 : q + (m + 1) = n := by rw [← hq]; exact hl
    have hW0 : ob < W.heap.size := Nat.lt_of_lt_of_le D.hbs.2.1 hW
    have HSUC := Lib.hid (ordFrom_succ n m pre)
    have HK0 : Hid (J (done ++ ordK n m pre 0) Pt W) := by unfold Hid ordK; simpa using HJ0.out
    clear T ho hq hl hnv hno hps
    go_enter Tryd.func74, Tryd.ntmps74
    go_wp2
    clear l1 hv
    go_loopw [18] (fun i wr => ∃ k : Nat, k ≤ n ∧ i = .int .i64 k ∧ Hid (∃ Pt, J (done ++ ordK n m pre k) Pt wr ∧ OrdQ wr base ob Pt pre ∧ ∀ r, Pt r → B0 ≤ r) ∧ Hid (OrdT wr ob lb yb eb gl n l) ∧ base ≤ wr.heap.size) (fun i _ => n - (intOf i).toNat)
    case atStart => exact ⟨0, by omega, rfl, ⟨Pt, HK0.out, ⟨_, HV.out, HO.out, HNV.out, HNO.out, HPS.out⟩, HPT.out⟩, HT.out, hW⟩
    case round =>
      obtain ⟨wo, rfl⟩ : ∃ x, x = wr := ⟨_, rfl⟩
      obtain ⟨k, hk, rfl, HJQ, HTK, hwk⟩ := hrel
      obtain ⟨Pk, hjk, hoq, hpk⟩ := HJQ.out
      have HJK := Lib.hid hjk
      have HOQ := Lib.hid hoq
      have HPK := Lib.hid hpk
      clear HJQ hjk hoq hpk
      by_cases hlt : k < n
      · obtain ⟨vk, hvk, hok, hnk, hnob, hpsk⟩ := HOQ.out
        have HNK := Lib.hid hnk
        have HNB := Lib.hid hnob
        have HSK := Lib.hid hpsk
        clear hnk hnob hpsk
        have ck := HTK.out.arr k hlt
        have hobw : ob < wo.heap.size := Nat.lt_of_lt_of_le D.hbs.2.1 hwk
        have HVK := Lib.hid hvk
        have HOW := Lib.hid hok
        rcases hc : pre.contains k with _ | _
        · have hcc : containsI (nI pre) (k : Int) = false := (contains_nI pre k).trans hc
          have HC := Lib.hid hc
          clear hc hok
          have hkm : (k : Nat) ∉ pre := by simpa using HC.out
          have HPL : Hid ((pre ++ [k]).length + m = n) := by unfold Hid; rw [List.length_append, HQ.out]; simp; omega
          have HPN : Hid ((pre ++ [k]).Nodup) := by
            unfold Hid
            rw [List.nodup_append]
            exact ⟨HD.out, by simp, fun x hx y hy => by rw [List.mem_singleton] at hy; subst hy; intro e; subst e; exact hkm hx⟩
          have HPX : Hid (∀ x ∈ pre ++ [k], x < n) := fun x hx => by
            rw [List.mem_append, List.mem_singleton] at hx
            rcases hx with hx | rfl
            · exact HX.out x hx
            · exact hlt
          have hlen1 : (nI pre).length ≤ 1099511627776 := by rw [nI_len, HQ.out]; omega
          have HSN : Hid ((nI pre ++ [(k : Int)]).length = q + 1) := by unfold Hid; rw [List.length_append, nI_len, HQ.out]; rfl
          have HSN2 : Hid ((nI (pre ++ [k])).length = q + 1) := by unfold Hid; rw [nI_snoc]; exact HSN.out
          clear hkm
          go_wp2_with (first
            | (go_at_call 43; refine (contains_any _ (nI pre) _ _ HOW.out.rd).mono ?_; rintro e w1 ⟨rfl, rfl⟩)
            | (at_builtin; refine wp_append1a _ rfl (.tmp 25) (.tmp 27) rfl base _ (nI pre) (k : Int) rfl HOW.out (by simp [Act.eval]) hlen1 hwk ?_; intro v5 w5 hown1 hg1 hat1
               obtain ⟨A5, c5, rfl, -, -, -⟩ := hown1.form
               rw [HSN.out] at hown1 hat1 ⊢
               have HN5 : Hid (∀ r, (Value.slice A5 (q + 1) c5).ownBlock = some r → ¬ Pk r) := fun r hr hq => by
                 rcases hat1 r hr with h | h
                 · exact HNK.out r h hq
                 · have := HSK.out r hq; omega
               have HS5 : Hid (∀ r, Pk r → r < w5.heap.size) := fun r h => Nat.lt_of_lt_of_le (HSK.out r h) hg1.size
               clear hat1
               have HO5 := Lib.hid hown1
               have HT5 := Lib.hid (HTK.out.grown D hg1 (fun r hr => (HOW.out.lt r hr).1) hobw)
               have v5 := (World.cell?_of_block (a := ⟨ob, 0, none⟩) (hg1.block ob hobw (fun e => by have h1 := (HOW.out.lt _ e.symm).1; have h2 := D.hbs.2.1; omega))).trans HVK.out
               have f5 := HT5.out.frz
               have e6 := (HT5.out.setOb D (.slice A5 (q + 1) c5)).ext
               have HJ6 := Lib.hid (HJ.out _ _ _ _ _ (HJ.out _ _ _ _ _ HJK.out hg1 (fun r hr => ⟨Nat.le_trans hB0.2 (HOW.out.lt r hr).1, HNK.out r hr⟩)) (setCell_grown w5 ⟨ob, 0, none⟩ (.slice A5 (q + 1) c5)) (fun r hr => by injection hr with hr; rw [← hr]; exact ⟨hB0.1, HNB.out⟩))
               have HO6 := Lib.hid (show OrdQ (w5.setCell ⟨ob, 0, none⟩ (.slice A5 (q + 1) c5)) base ob Pk (pre ++ [k]) from ⟨_, World.cell?_setCell_same _ _ _ v5, by rw [nI_snoc]; exact HO5.out.kept (setCell_grown w5 ⟨ob, 0, none⟩ _) (own_ne (fun r hr => (HO5.out.lt r hr).1) D.hbs.2.1), HN5.out, HNB.out, fun r h => by simpa using HS5.out r h⟩)
               have hs6 : base ≤ (w5.setCell ⟨ob, 0, none⟩ (.slice A5 (q + 1) c5)).heap.size := by have := hg1.size; simp; omega
               clear hown1 hg1)
            | (go_at_call 74; refine (IH.out (pre ++ [k]) (done ++ ordK n m pre k) Pk _ HPL.out HPN.out HPX.out hs6 HPK.out HJ6.out (HT5.out.setOb D _) HO6.out).mono ?_
               rintro e w7 ⟨rfl, P7, hj7, ht7, ⟨v7, hv7, ho7, hn7, hno7, hps7⟩, hs7, hp7⟩
               obtain ⟨A7, c7, rfl, -, hlc7, hA7⟩ := ho7.form
               rw [HSN2.out] at hv7 ho7 hlc7 hA7
               obtain ⟨g7, rfl, -, -⟩ := hA7 (by omega)
               have HJ7 := Lib.hid hj7
               have HN7 := Lib.hid hn7
               have HNO7 := Lib.hid hno7
               have HPS7 := Lib.hid hps7
               have HP7 := Lib.hid hp7
               have HT7 := Lib.hid ht7
               have HO7 := Lib.hid ho7
               have HV7 := Lib.hid hv7
               have f7 := ht7.frz
               clear v5 f5 e6 hj7 ht7 ho7 hA7 hn7 hno7 hps7 hp7))
          go_roundw
          case rel =>
            have hg8 := setCell_grown w7 ⟨ob, 0, none⟩ (.slice (some ⟨g7, 0, none⟩) q c7)
            refine ⟨k + 1, by omega, by go_num, ⟨P7, ?_, ⟨_, World.cell?_setCell_same _ _ _ HV7.out, ?_, HN7.out, HNO7.out, fun r h => by simpa using HPS7.out r h⟩, HP7.out⟩, HT7.out.setOb D _, by simp; exact hs7⟩
            · have := HJ.out _ _ _ _ _ HJ7.out hg8 (fun r hr => by injection hr with hr; rw [← hr]; exact ⟨hB0.1, HNO7.out⟩)
              rw [List.append_assoc, ← ordK_yes HC.out] at this
              exact this
            · have h7 := HO7.out
              rw [nI_snoc] at h7
              exact (own_prefix (by rw [nI_len]; exact HQ.out) h7).kept hg8 (own_ne (fun r hr => (HO7.out.lt r hr).1) D.hbs.2.1)
          case measure => simp [intOf]; omega
        · have hcc : containsI (nI pre) (k : Int) = true := (contains_nI pre k).trans hc
          have HC := Lib.hid hc
          clear hc hok
          go_wp2_with (go_at_call 43; refine (contains_any _ (nI pre) _ _ HOW.out.rd).mono ?_; rintro e w1 ⟨rfl, rfl⟩)
          go_roundw
          case rel => exact ⟨k + 1, by omega, by go_num, ⟨Pk, by rw [ordK_no HC.out]; exact HJK.out, HOQ.out, HPK.out⟩, HTK.out, hwk⟩
          case measure => simp [intOf]; omega
      · obtain rfl : n = k := by omega
        go_wp2
        go_ret
        exact ⟨rfl, Pk, HJK.out, HTK.out, HOQ.out, hwk, HPK.out⟩
set_option maxHeartbeats 2000000 in
/-- the iterator gives all orders, in depth first order -/
theorem orders_allP {n : Nat} (hn : n ≤ 8) (lb gl cb : Nat) (w0 : World) (hgl : gl < w0.heap.size) (hlb : lb < w0.heap.size) (hcb : cb < w0.heap.size) (hne : cb ≠ lb ∧ cb ≠ gl)
    (h1 : w0.cell? ⟨lb, 0, none⟩ = some (.slice (some ⟨gl, 0, none⟩) n n)) (h2 : ∀ k, k < n → w0.cell? ⟨gl, k, none⟩ = some (.int .i64 (k : Nat))) :
    SeqAllP Tryd.prog 73 #[.pointer (some ⟨lb, 0, none⟩)] cb (fun W (x : List Nat) v => Rd W v (nI x)) (ordL n) w0 := by
  intro l J W hB hJ hY h0
  have hsz := hB.size
  have D : OrdD cb (W.heap.size + 1 + 1 + 1) (W.heap.size + 1) lb W.heap.size (W.heap.size + 1 + 1) gl := ⟨⟨by omega, hne.1, by omega, by omega, hne.2⟩, ⟨by omega, by omega, by omega, by omega⟩, ⟨by omega, by omega, by omega, by omega, by omega, by omega⟩⟩
  have l1 := (hB.cell (p := ⟨lb, 0, none⟩) hlb).trans h1
  have l2 : ∀ k, k < n → W.cell? ⟨gl, k, none⟩ = some (.int .i64 (k : Nat)) := fun k hk => (hB.cell (p := ⟨gl, k, none⟩) hgl).trans (h2 k hk)
  have E := Lib.hid (extend_anyP hn (W.heap.size + 1 + 1 + 1) (W.heap.size + 1) lb W.heap.size (W.heap.size + 1 + 1) gl l cb W.heap.size D J hJ ⟨by omega, by omega⟩ hY n [] [] (fun _ => False))
  have HJ := Lib.hid hJ
  have HJ0 := Lib.hid h0
  have HL1 := Lib.hid l1
  have HL2 := Lib.hid l2
  clear hJ hY h0 l1 l2 h1 h2
  go_enter Tryd.func73, Tryd.ntmps73
  go_wp2_with fail
  have hb3 := ((below_alloc1 W (.cells #[.func (.yield l) #[] #[]] 61)).alloc (by simp) (.cells #[.slice none 0 0] 23)).alloc (by simp; omega) (.cells #[.func (.func 74) #[] #[.pointer (some ⟨W.heap.size + 1, 0, none⟩), .pointer (some ⟨lb, 0, none⟩), .pointer (some ⟨W.heap.size, 0, none⟩), .pointer (some ⟨W.heap.size + 1 + 1, 0, none⟩)]] 85)
  have T3 : OrdT (((W.alloc (.cells #[.func (.yield l) #[] #[]] 61)).alloc (.cells #[.slice none 0 0] 23)).alloc (.cells #[.func (.func 74) #[] #[.pointer (some ⟨W.heap.size + 1, 0, none⟩), .pointer (some ⟨lb, 0, none⟩), .pointer (some ⟨W.heap.size, 0, none⟩), .pointer (some ⟨W.heap.size + 1 + 1, 0, none⟩)]] 85)) (W.heap.size + 1) lb W.heap.size (W.heap.size + 1 + 1) gl n l := ⟨(hb3.cell (p := ⟨lb, 0, none⟩) (by show lb < _; omega)).trans HL1.out, fun k hk => (hb3.cell (p := ⟨gl, k, none⟩) (by show gl < _; omega)).trans (HL2.out k hk), (three_new _ _ _ _ _ _ _).1, (three_new _ _ _ _ _ _ _).2.2.1, (three_new _ _ _ _ _ _ _).2.2.2⟩
  have O3 : OrdQ (((W.alloc (.cells #[.func (.yield l) #[] #[]] 61)).alloc (.cells #[.slice none 0 0] 23)).alloc (.cells #[.func (.func 74) #[] #[.pointer (some ⟨W.heap.size + 1, 0, none⟩), .pointer (some ⟨lb, 0, none⟩), .pointer (some ⟨W.heap.size, 0, none⟩), .pointer (some ⟨W.heap.size + 1 + 1, 0, none⟩)]] 85)) (W.heap.size + 1 + 1 + 1) (W.heap.size + 1) (fun _ => False) [] := ⟨.slice none 0 0, (three_new _ _ _ _ _ _ _).2.1, Own.nil_ _ _, fun _ _ h => h, fun h => h, fun _ h => h.elim⟩
  have J3 : J [] (fun _ => False) (((W.alloc (.cells #[.func (.yield l) #[] #[]] 61)).alloc (.cells #[.slice none 0 0] 23)).alloc (.cells #[.func (.func 74) #[] #[.pointer (some ⟨W.heap.size + 1, 0, none⟩), .pointer (some ⟨lb, 0, none⟩), .pointer (some ⟨W.heap.size, 0, none⟩), .pointer (some ⟨W.heap.size + 1 + 1, 0, none⟩)]] 85)) := HJ.out.alloc _ (HJ.out.alloc _ (HJ.out.alloc _ HJ0.out))
  refine (E.out (((W.alloc (.cells #[.func (.yield l) #[] #[]] 61)).alloc (.cells #[.slice none 0 0] 23)).alloc (.cells #[.func (.func 74) #[] #[.pointer (some ⟨W.heap.size + 1, 0, none⟩), .pointer (some ⟨lb, 0, none⟩), .pointer (some ⟨W.heap.size, 0, none⟩), .pointer (some ⟨W.heap.size + 1 + 1, 0, none⟩)]] 85)) (by simp) (by simp) (by simp) (by simp) (fun _ h => h.elim) J3 T3 O3).mono ?_
  rintro e w4 ⟨rfl, P4, hj4, -, -, -, -⟩
  have HJ4 := Lib.hid hj4
  clear E HJ hb3 T3 O3 J3 hj4
  go_wp2
  go_end0
  exact ⟨⟨_, rfl⟩, P4, HJ4.out⟩
end Go.Proofs.YthoodjjjklbggaaDoor

namespace Go.Proofs.YthoodjjjklbggaaDoor
open Go.RowKit Go.Sort
set_option maxRecDepth 100000
theorem pow_lt_big {k : Nat} (h : k ≤ 50) : 2 ^ k ≤ 1125899906842624 := Nat.le_trans (Nat.pow_le_pow_right (by decide) h) (by decide)
theorem bit_num (W b : Nat) : bits .and .i64 ((W : Int) / 2 ^ b) 1 = ((W.testBit b).toNat : Int) := by
  rw [i64_and_one]
  have : (W : Int) / 2 ^ b % 2 = ((W / 2 ^ b % 2 : Nat) : Int) := by simp
  rw [this, Nat.testBit_eq_decide_div_mod_eq]
  rcases Nat.mod_two_eq_zero_or_one (W / 2 ^ b) with h | h <;> rw [h] <;> rfl
set_option maxHeartbeats 4000000 in
theorem code_any (n : Nat) (sl : Value) (xs : List Int) (w : World) (h : Rd w sl xs) (hp : tourP n xs) (h6 : n ≤ 6) :
    Calls Tryd.prog 49 #[.agg #[.int .i64 n, sl]] w fun e w' => e = .returned (.int .i64 (codeN xs : Nat)) ∧ Below w.heap.size w w' := by
  obtain ⟨g, off, c, rfl, hcm, hg, hx⟩ := tour_cells h hp
  unfold maxLen at hcm
  have hp1 := hp.1
  have hpl := hp.2.1
  have HX := Lib.hid hx
  have HP := Lib.hid hp
  generalize hln : xs.length = m at *
  obtain rfl : m = n := by omega
  have HL := Lib.hid hln
  have HC : Hid (codeN xs = cdAll xs m m 0 0) := by unfold Hid codeN; rw [hln]
  clear hx hp hln hpl
  go_enter Tryd.func49, Tryd.ntmps49
  go_wp2_with fail
  have b0 := below_alloc1 w (.cells #[.int .i64 m, .slice (some ⟨g, off, none⟩) m c] 25)
  have x0 := TBox.new w m (.slice (some ⟨g, off, none⟩) m c) 25
  generalize w.alloc (.cells #[.int .i64 m, .slice (some ⟨g, off, none⟩) m c] 25) = w0 at *
  have HX0 := Lib.hid x0
  have HB0 := Lib.hid b0
  clear x0 b0
  have y0_0 := HX0.out.1
  have y1_0 := HX0.out.2
  clear y0_0 y1_0
  have HX1 : Hid (∀ j, j < m → w0.cell? ⟨g, off + j, none⟩ = some (.int .i64 (winsN xs j))) := fun j hj => (HB0.out.cell (p := ⟨g, off + j, none⟩) hg).trans (HX.out j hj)
  have y0 := HX0.out.1
  have y1 := HX0.out.2
  go_wp2_with fail
  go_loop [3, 10] (fun v i => ∃ (a cc : Nat), a ≤ m ∧ i = .int .i64 a ∧ v = .int .i64 cc ∧ Hid (cdAll xs m (m - a) a cc = codeN xs) ∧ Hid (cc < 2 ^ (8 * a))) (fun _ i => m - (intOf i).toNat)
  case atStart => exact ⟨0, 0, by omega, rfl, rfl, HC.out.symm, by simp [Hid]⟩
  case round =>
    obtain ⟨a, cc, ha, rfl, rfl, HA, HB⟩ := hrel
    by_cases hlt : a < m
    · have hxa := HX1.out a hlt
      have HRW : Hid (cdAll xs m (m - a) a cc = cdAll xs m (m - (a + 1)) (a + 1) (cdRow xs a (m - (a + 1)) (a + 1) cc)) := by
        unfold Hid; rw [show m - a = (m - (a + 1)) + 1 by omega]; rfl
      have hW := (tour_wins HP.out (show a < xs.length by rw [HL.out]; exact hlt)).2.2
      have HA2 : Hid (cdAll xs m (m - (a + 1)) (a + 1) (cdRow xs a (m - (a + 1)) (a + 1) cc) = codeN xs) := by unfold Hid; rw [← HRW.out]; exact HA.out
      have HBT : Hid (∀ b, bt xs a b = (winsN xs a).testBit b) := fun _ => rfl
      clear HRW
      generalize winsN xs a = W at *
      have hc0 : cc ≤ 1125899906842624 := Nat.le_of_lt (Nat.lt_of_lt_of_le HB.out (pow_lt_big (by omega)))
      go_wp2_with fail
      go_loop [3, 6] (fun v i => ∃ (b c2 : Nat), a + 1 ≤ b ∧ b ≤ m ∧ i = .int .i64 b ∧ v = .int .i64 c2 ∧ Hid (cdAll xs m (m - (a + 1)) (a + 1) (cdRow xs a (m - b) b c2) = codeN xs) ∧ Hid (c2 < 2 ^ (8 * a + b))) (fun _ i => m - (intOf i).toNat)
      case atStart => exact ⟨a + 1, cc, Nat.le_refl _, hlt, by go_num, rfl, HA2.out, Nat.lt_of_lt_of_le HB.out (Nat.pow_le_pow_right (by decide) (by omega))⟩
      case round =>
        obtain ⟨b, c2, hb1, hb, rfl, rfl, HD, HE⟩ := hrel
        have hc2 : c2 ≤ 1125899906842624 := Nat.le_of_lt (Nat.lt_of_lt_of_le HE.out (pow_lt_big (by omega)))
        by_cases hbm : b < m
        · have hbn := bit_num W b
          have h01 := toNat_le1 (W.testBit b)
          have HRO : Hid (cdRow xs a (m - b) b c2 = cdRow xs a (m - (b + 1)) (b + 1) (2 * c2 + (W.testBit b).toNat)) := by
            unfold Hid; rw [show m - b = (m - (b + 1)) + 1 by omega, cdRow, HBT.out]
          have HE2 : Hid (2 * c2 + (W.testBit b).toNat < 2 ^ (8 * a + (b + 1))) := by
            have := HE.out
            unfold Hid
            rw [show 8 * a + (b + 1) = (8 * a + b) + 1 by omega, Nat.pow_succ]; omega
          have HD2 : Hid (cdAll xs m (m - (a + 1)) (a + 1) (cdRow xs a (m - (b + 1)) (b + 1) (2 * c2 + (W.testBit b).toNat)) = codeN xs) := by unfold Hid; rw [← HRO.out]; exact HD.out
          clear HRO
          generalize (W.testBit b).toNat = t at *
          go_wp2
          go_round
          case rel => exact ⟨b + 1, 2 * c2 + t, by omega, by omega, by go_num, by go_num, HD2.out, HE2.out⟩
          case measure => simp [intOf]; omega
        · obtain rfl : b = m := by omega
          have HD2 : Hid (cdAll xs b (b - (a + 1)) (a + 1) c2 = codeN xs) := by have := HD.out; rw [Nat.sub_self] at this; exact this
          have HE2 : Hid (c2 < 2 ^ (8 * (a + 1))) := Nat.lt_of_lt_of_le HE.out (Nat.pow_le_pow_right (by decide) (by omega))
          go_wp2
          go_round
          case rel => exact ⟨a + 1, c2, by omega, by go_num, rfl, HD2.out, HE2.out⟩
          case measure => simp [intOf]; omega
    · obtain rfl : a = m := by omega
      have HF : Hid (cc = codeN xs) := by have := HA.out; rw [Nat.sub_self] at this; exact this
      go_wp2
      go_ret
      exact ⟨ret_int (by rw [HF.out]), HB0.out⟩
end Go.Proofs.YthoodjjjklbggaaDoor

