/- impl.orders: all orders, in one list that changes. -/
import Derived.Test.YtceeplhkokajhabRngF
import Derived.Test.YtceeplhkokajhabCls
import Derived.Test.YtceeplhkokajhabIdx
import Derived.Test.YtceeplhkokajhabWayOn
import Derived.Laws.EntriesVeiled
namespace Go.Proofs.Ytceeplhkokajhab
open Go.RowKit Go.Sort
set_option maxRecDepth 100000
attribute [local go_sem] Oper.semAt_some
theorem YieldAt.any {m m' : Nat} {P : Program} {l : Nat} {args : Array Value} {W : World} {R : Ending → World → Prop} (h : YieldAt Fence.wide m P l args W R) : YieldAt Fence.wide m' P l args W R := by
  obtain ⟨fn, tmps, assign, body, hy, hR⟩ := h
  exact ⟨fn, tmps, assign, body, hy, hR.1, fun c cs _ => hR.2 c cs (room_wide _)⟩
theorem frozen_of_block {w w' : World} {a : Addr} (h : w'.heap[a.block]? = w.heap[a.block]?) : w'.frozen? a = w.frozen? a := by
  simp [World.frozen?, h]
/-- the boxes of the iterator: order, list, yield, extend; the list's block -/
structure OrdD (cb base ob lb yb eb gl : Nat) : Prop where
  hcb : cb ≠ ob ∧ cb ≠ lb ∧ cb ≠ yb ∧ cb ≠ eb ∧ cb ≠ gl
  hob : ob ≠ lb ∧ ob ≠ yb ∧ ob ≠ eb ∧ ob ≠ gl
  hbs : cb < base ∧ ob < base ∧ lb < base ∧ yb < base ∧ eb < base ∧ gl < base
structure OrdT (W : World) (ob lb yb eb gl n l : Nat) : Prop where
  lst : W.cell? ⟨lb, 0, none⟩ = some (.slice (some ⟨gl, 0, none⟩) n n)
  arr : ∀ k, k < n → W.cell? ⟨gl, k, none⟩ = some (.int .i64 (k : Nat))
  yld : W.cell? ⟨yb, 0, none⟩ = some (.func (.yield l) #[] #[])
  ext : W.cell? ⟨eb, 0, none⟩ = some (.func (.func 73) #[] #[.pointer (some ⟨ob, 0, none⟩), .pointer (some ⟨lb, 0, none⟩), .pointer (some ⟨yb, 0, none⟩), .pointer (some ⟨eb, 0, none⟩)])
  frz : W.frozen? ⟨ob, 0, none⟩ = false
def OrdO (W : World) (base ob : Nat) (pre : List Nat) : Prop := ∃ v, W.cell? ⟨ob, 0, none⟩ = some v ∧ Own W base v (nI pre)
theorem OrdT.grown {W W' : World} {cb base ob lb yb eb gl n l : Nat} {row : Option Nat} (h : OrdT W ob lb yb eb gl n l) (D : OrdD cb base ob lb yb eb gl) (hg : W.grownBy W' row) (hr : ∀ r, row = some r → base ≤ r) (hs : ob < W.heap.size) : OrdT W' ob lb yb eb gl n l := by
  have hb := D.hbs
  have k : ∀ {p : Addr} {v : Value}, p.block < base → W.cell? p = some v → W'.cell? p = some v := fun hp hv =>
    (World.cell?_of_block (hg.block _ (World.block_lt_of_cell? W _ hv) (fun e => by have := hr _ e.symm; omega))).trans hv
  exact ⟨k (by show lb < base; omega) h.lst, fun j hj => k (by show gl < base; omega) (h.arr j hj), k (by show yb < base; omega) h.yld, k (by show eb < base; omega) h.ext,
    (frozen_of_block (hg.block ob hs (fun e => by have := hr _ e.symm; omega))).trans h.frz⟩
theorem OrdT.setOb {W : World} {cb base ob lb yb eb gl n l : Nat} (h : OrdT W ob lb yb eb gl n l) (D : OrdD cb base ob lb yb eb gl) (v : Value) : OrdT (W.setCell ⟨ob, 0, none⟩ v) ob lb yb eb gl n l := by
  have ho := D.hob
  have k : ∀ {p : Addr} {u : Value}, p.block ≠ ob → W.cell? p = some u → (W.setCell ⟨ob, 0, none⟩ v).cell? p = some u := fun hp hv =>
    (World.cell?_setCell_other _ _ _ _ (fun e => hp (by rw [← e]))).trans hv
  exact ⟨k (Ne.symm ho.1) h.lst, fun j hj => k (Ne.symm ho.2.2.2) (h.arr j hj), k (Ne.symm ho.2.1) h.yld, k (Ne.symm ho.2.2.1) h.ext, by rw [World.frozen?_setCell]; exact h.frz⟩
theorem own_kpc {cb base : Nat} {W W' : World} {v : Value} {xs : List Int} (h : Own W base v xs) (k : KpC cb W W') (hb : cb < base) : Own W' base v xs := by
  refine ⟨h.1, ?_⟩
  rcases h.2 with h0 | ⟨g, cap, cur, hv, hg, hh, r⟩
  · exact .inl h0
  · exact .inr ⟨g, cap, cur, hv, hg, k.same _ _ (by omega) hh rfl, r⟩
theorem OrdT.kpc {W W' : World} {cb base ob lb yb eb gl n l : Nat} (h : OrdT W ob lb yb eb gl n l) (D : OrdD cb base ob lb yb eb gl) (k : KpC cb W W') {v : Value} (hv : W.cell? ⟨ob, 0, none⟩ = some v) : OrdT W' ob lb yb eb gl n l := by
  have hc := D.hcb
  exact ⟨k.cell (Ne.symm hc.2.1) h.lst, fun j hj => k.cell (Ne.symm hc.2.2.2.2) (h.arr j hj), k.cell (Ne.symm hc.2.2.1) h.yld, k.cell (Ne.symm hc.2.2.2.1) h.ext,
    (frozen_of_block (k.block (p := ⟨ob, 0, none⟩) (Ne.symm hc.1) hv)).trans h.frz⟩
def ExtP (J : List (List Nat) → World → Prop) (done : List (List Nat)) (base ob lb yb eb gl n l : Nat) (pre : List Nat) (e : Ending) (w' : World) : Prop :=
  e = .returned (.bool true) ∧ J done w' ∧ OrdT w' ob lb yb eb gl n l ∧ OrdO w' base ob pre ∧ base ≤ w'.heap.size
set_option maxHeartbeats 2000000 in
theorem extend_zero {n : Nat} (base ob lb yb eb gl l cb : Nat) (D : OrdD cb base ob lb yb eb gl) (J : List (List Nat) → World → Prop)
    (hY : ∀ done x v W1, J done W1 → Rd W1 v (nI x) → x ∈ ordL n → YieldAt Fence.wide 0 Try.prog l #[v] W1 fun e W' => e = .returned (.bool true) ∧ J (done ++ [x]) W' ∧ KpC cb W1 W')
    (pre : List Nat) (done : List (List Nat)) (W : World) (hp : pre ∈ ordL n) (hW : base ≤ W.heap.size) (hj : J done W) (T : OrdT W ob lb yb eb gl n l) (O : OrdO W base ob pre) :
    Calls Try.prog 73 #[.pointer (some ⟨ob, 0, none⟩), .pointer (some ⟨lb, 0, none⟩), .pointer (some ⟨yb, 0, none⟩), .pointer (some ⟨eb, 0, none⟩)] W (ExtP J (done ++ [pre]) base ob lb yb eb gl n l pre) := by
  obtain ⟨v, hv, ho⟩ := O
  have hl : pre.length = n := (mem_ordL.1 hp).1
  obtain ⟨fn, tmps, assign, body, hy, hR⟩ := YieldAt.any (m' := 0) (hY done pre v W hj ho.rd hp)
  obtain ⟨A, c, rfl, -, -, -⟩ := ho.form
  rw [nI_len, hl] at hv hy ho
  have HT := Lib.hid T
  have HO := Lib.hid ho
  have HV := Lib.hid hv
  have l1 := T.lst
  have l2 := T.yld
  clear T ho hl
  refine callsIn_wide.1 (callsIn_of_wp (n := 0) Try.func73 rfl trivial ?_ rfl)
  simp only [Try.ntmps73, List.size_toArray, List.length_cons, List.length_nil, Nat.reduceAdd, Nat.reduceSub, Array.replicate_succ, Array.replicate_zero, List.push_toArray, List.append_toArray, List.nil_append, List.cons_append]
  gi_wp2_with (refine ⟨rfl, ?_⟩; refine hR.mono ?_; clear hR; rintro e W1 ⟨rfl, hj1, hk1⟩)

  go_ret
  exact ⟨rfl, hj1, HT.out.kpc D hk1 HV.out, ⟨_, hk1.cell (Ne.symm D.hcb.1) HV.out, own_kpc HO.out hk1 D.hbs.1⟩, Nat.le_trans hW hk1.size⟩
theorem ordFrom_succ (n m : Nat) (pre : List Nat) : ordFrom n (m + 1) pre = ((List.range n).filter fun b => !pre.contains b).flatMap fun b => ordFrom n m (pre ++ [b]) := rfl
/-- what has come before the k-th -/
def ordK (n m : Nat) (pre : List Nat) (k : Nat) : List (List Nat) := ((List.range k).filter fun b => !pre.contains b).flatMap fun b => ordFrom n m (pre ++ [b])
theorem ordK_no {n m k : Nat} {pre : List Nat} (h : pre.contains k = true) : ordK n m pre (k + 1) = ordK n m pre k := by
  have : k ∈ pre := by simpa using h
  unfold ordK; rw [List.range_succ, List.filter_append]; simp [this]
theorem ordK_yes {n m k : Nat} {pre : List Nat} (h : pre.contains k = false) : ordK n m pre (k + 1) = ordK n m pre k ++ ordFrom n m (pre ++ [k]) := by
  have : k ∉ pre := by simpa using h
  unfold ordK; rw [List.range_succ, List.filter_append]; simp [this]
theorem contains_nI (pre : List Nat) (k : Nat) : containsI (nI pre) (k : Int) = pre.contains k := by
  have h : ((k : Nat) : Int) ∈ nI pre ↔ k ∈ pre := by
    unfold nI
    rw [List.mem_map]
    constructor
    · rintro ⟨a, ha, e⟩
      have e : a = k := by omega
      rw [← e]; exact ha
    · intro h; exact ⟨k, h, rfl⟩
  unfold containsI
  rw [Bool.eq_iff_iff]
  simpa using h
set_option maxHeartbeats 4000000 in
theorem extend_any {n : Nat} (hn : n ≤ 8) (base ob lb yb eb gl l cb B0 : Nat) (D : OrdD cb base ob lb yb eb gl) (J : List (List Nat) → World → Prop) (hJ : AbN B0 J) (hB0 : B0 ≤ ob ∧ B0 ≤ base)
    (hY : ∀ done x v W1, J done W1 → Rd W1 v (nI x) → x ∈ ordL n → YieldAt Fence.wide 0 Try.prog l #[v] W1 fun e W' => e = .returned (.bool true) ∧ J (done ++ [x]) W' ∧ KpC cb W1 W') :
    ∀ (m : Nat) (pre : List Nat) (done : List (List Nat)) (W : World), pre.length + m = n → pre.Nodup → (∀ x ∈ pre, x < n) → base ≤ W.heap.size → J done W → OrdT W ob lb yb eb gl n l → OrdO W base ob pre →
    Calls Try.prog 73 #[.pointer (some ⟨ob, 0, none⟩), .pointer (some ⟨lb, 0, none⟩), .pointer (some ⟨yb, 0, none⟩), .pointer (some ⟨eb, 0, none⟩)] W (ExtP J (done ++ ordFrom n m pre) base ob lb yb eb gl n l pre) := by
  intro m
  induction m with
  | zero =>
    intro pre done W hl hd hx hW hj T O
    exact extend_zero base ob lb yb eb gl l cb D J hY pre done W (mem_ordL.2 ⟨by omega, hx, hd⟩) hW hj T O
  | succ m ih =>
    intro pre done W hl hd hx hW hj T O
    have IH := Lib.hid ih
    have HYY := Lib.hid hY
    have HJ := Lib.hid hJ
    have HJ0 := Lib.hid hj
    have HX := Lib.hid hx
    have HD := Lib.hid hd
    clear ih hY hJ hj hx hd
    obtain ⟨q, hq⟩ : ∃ q, pre.length = q := ⟨_, rfl⟩
    obtain ⟨v, hv, ho⟩ := O
    obtain ⟨A, c, rfl, hcm, hlc, -⟩ := ho.form
    rw [nI_len, hq] at hv ho hlc
    have hqn : (((q : Nat) : Int) == ((n : Nat) : Int)) = false := by simp; omega
    have HQ := Lib.hid hq
    have HO := Lib.hid ho
    have HT := Lib.hid T
    have l1 := T.lst
    have HV := Lib.hid hv
    have hl2 : q + (m + 1) = n := by rw [← hq]; exact hl
    have hW0 : ob < W.heap.size := Nat.lt_of_lt_of_le D.hbs.2.1 hW
    have HSUC := Lib.hid (ordFrom_succ n m pre)
    have HK0 : Hid (J (done ++ ordK n m pre 0) W) := by unfold Hid ordK; simpa using HJ0.out
    clear T ho hq hl
    go_enter Try.func73, Try.ntmps73
    go_wp2
    clear l1 hv
    go_loopw [18] (fun i wr => ∃ k : Nat, k ≤ n ∧ i = .int .i64 k ∧ Hid (J (done ++ ordK n m pre k) wr) ∧ Hid (OrdT wr ob lb yb eb gl n l) ∧ Hid (OrdO wr base ob pre) ∧ base ≤ wr.heap.size) (fun i _ => n - (intOf i).toNat)
    case atStart => exact ⟨0, by omega, rfl, HK0.out, HT.out, ⟨_, HV.out, HO.out⟩, hW⟩
    case round =>
      obtain ⟨wo, rfl⟩ : ∃ x, x = wr := ⟨_, rfl⟩
      obtain ⟨k, hk, rfl, HJK, HTK, HOK, hwk⟩ := hrel
      by_cases hlt : k < n
      · obtain ⟨vk, hvk, hok⟩ := HOK.out
        have ck := HTK.out.arr k hlt
        have hobw : ob < wo.heap.size := Nat.lt_of_lt_of_le D.hbs.2.1 hwk
        have HVK := Lib.hid hvk
        have HOW := Lib.hid hok
        rcases hc : pre.contains k with _ | _
        · have hcc : containsI (nI pre) (k : Int) = false := (contains_nI pre k).trans hc
          have HC := Lib.hid hc
          clear hc hok
          have hkm : (k : Nat) ∉ pre := by simpa using HC.out
          have HPL : Hid ((pre ++ [k]).length + m = n) := by unfold Hid; rw [List.length_append, HQ.out]; simp; omega
          have HPN : Hid ((pre ++ [k]).Nodup) := by
            unfold Hid
            rw [List.nodup_append]
            exact ⟨HD.out, by simp, fun x hx y hy => by rw [List.mem_singleton] at hy; subst hy; intro e; subst e; exact hkm hx⟩
          have HPX : Hid (∀ x ∈ pre ++ [k], x < n) := fun x hx => by
            rw [List.mem_append, List.mem_singleton] at hx
            rcases hx with hx | rfl
            · exact HX.out x hx
            · exact hlt
          have hlen1 : (nI pre).length ≤ 1099511627776 := by rw [nI_len, HQ.out]; omega
          have HSN : Hid ((nI pre ++ [(k : Int)]).length = q + 1) := by unfold Hid; rw [List.length_append, nI_len, HQ.out]; rfl
          have HSN2 : Hid ((nI (pre ++ [k])).length = q + 1) := by unfold Hid; rw [nI_snoc]; exact HSN.out
          clear hkm
          go_wp2_with (first
            | (go_at_call 74; refine (contains_any _ (nI pre) _ _ HOW.out.rd).mono ?_; rintro e w1 ⟨rfl, rfl⟩)
            | (at_builtin; refine wp_append1 _ rfl (.tmp 25) (.tmp 27) rfl base _ (nI pre) (k : Int) rfl HOW.out (by simp [Act.eval]) hlen1 hwk ?_; intro v5 w5 hown1 hg1
               obtain ⟨A5, c5, rfl, -, -, -⟩ := hown1.form
               rw [HSN.out] at hown1 ⊢
               have HO5 := Lib.hid hown1
               have HT5 := Lib.hid (HTK.out.grown D hg1 (fun r hr => (HOW.out.lt r hr).1) hobw)
               have v5 := (World.cell?_of_block (a := ⟨ob, 0, none⟩) (hg1.block ob hobw (fun e => by have h1 := (HOW.out.lt _ e.symm).1; have h2 := D.hbs.2.1; omega))).trans HVK.out
               have f5 := HT5.out.frz
               have e6 := (HT5.out.setOb D (.slice A5 (q + 1) c5)).ext
               have HJ6 := Lib.hid (HJ.out _ _ _ _ (HJ.out _ _ _ _ HJK.out hg1 (fun r hr => Nat.le_trans hB0.2 (HOW.out.lt r hr).1)) (setCell_grown w5 ⟨ob, 0, none⟩ (.slice A5 (q + 1) c5)) (fun r hr => by injection hr with hr; rw [← hr]; exact hB0.1))
               have HO6 := Lib.hid (show OrdO (w5.setCell ⟨ob, 0, none⟩ (.slice A5 (q + 1) c5)) base ob (pre ++ [k]) from ⟨_, World.cell?_setCell_same _ _ _ v5, by rw [nI_snoc]; exact HO5.out.kept (setCell_grown w5 ⟨ob, 0, none⟩ _) (own_ne (fun r hr => (HO5.out.lt r hr).1) D.hbs.2.1)⟩)
               have hs6 : base ≤ (w5.setCell ⟨ob, 0, none⟩ (.slice A5 (q + 1) c5)).heap.size := by have := hg1.size; simp; omega
               clear hown1 hg1)
            | (go_at_call 73; refine (IH.out (pre ++ [k]) (done ++ ordK n m pre k) _ HPL.out HPN.out HPX.out hs6 HJ6.out (HT5.out.setOb D _) HO6.out).mono ?_
               rintro e w7 ⟨rfl, hj7, ht7, ⟨v7, hv7, ho7⟩, hs7⟩
               obtain ⟨A7, c7, rfl, -, hlc7, hA7⟩ := ho7.form
               rw [HSN2.out] at hv7 ho7 hlc7 hA7
               obtain ⟨g7, rfl, -, -⟩ := hA7 (by omega)
               have HJ7 := Lib.hid hj7
               have HT7 := Lib.hid ht7
               have HO7 := Lib.hid ho7
               have HV7 := Lib.hid hv7
               have f7 := ht7.frz
               clear v5 f5 e6 hj7 ht7 ho7 hA7))
          go_roundw
          case rel =>
            have hg8 := setCell_grown w7 ⟨ob, 0, none⟩ (.slice (some ⟨g7, 0, none⟩) q c7)
            refine ⟨k + 1, by omega, by go_num, ?_, HT7.out.setOb D _, ⟨_, World.cell?_setCell_same _ _ _ HV7.out, ?_⟩, by simp; exact hs7⟩
            · have := HJ.out _ _ _ _ HJ7.out hg8 (fun r hr => by injection hr with hr; rw [← hr]; exact hB0.1)
              rw [List.append_assoc, ← ordK_yes HC.out] at this
              exact this
            · have h7 := HO7.out
              rw [nI_snoc] at h7
              exact (own_prefix (by rw [nI_len]; exact HQ.out) h7).kept hg8 (own_ne (fun r hr => (HO7.out.lt r hr).1) D.hbs.2.1)
          case measure => simp [intOf]; omega
        · have hcc : containsI (nI pre) (k : Int) = true := (contains_nI pre k).trans hc
          have HC := Lib.hid hc
          clear hc hok
          go_wp2_with (go_at_call 74; refine (contains_any _ (nI pre) _ _ HOW.out.rd).mono ?_; rintro e w1 ⟨rfl, rfl⟩)
          go_roundw
          case rel => exact ⟨k + 1, by omega, by go_num, by rw [ordK_no HC.out]; exact HJK.out, HTK.out, HOK.out, hwk⟩
          case measure => simp [intOf]; omega
      · obtain rfl : n = k := by omega
        go_wp2
        go_ret
        exact ⟨rfl, HJK.out, HTK.out, HOK.out, hwk⟩
theorem ordFrom_zero (n : Nat) : ordFrom n n [] = ordL n := rfl
theorem three_new (W : World) (a b c : Value) (t u v : TypeId) :
    (((W.alloc (.cells #[a] t)).alloc (.cells #[b] u)).alloc (.cells #[c] v)).cell? ⟨W.heap.size, 0, none⟩ = some a ∧ (((W.alloc (.cells #[a] t)).alloc (.cells #[b] u)).alloc (.cells #[c] v)).cell? ⟨W.heap.size + 1, 0, none⟩ = some b ∧
    (((W.alloc (.cells #[a] t)).alloc (.cells #[b] u)).alloc (.cells #[c] v)).cell? ⟨W.heap.size + 1 + 1, 0, none⟩ = some c ∧ (((W.alloc (.cells #[a] t)).alloc (.cells #[b] u)).alloc (.cells #[c] v)).frozen? ⟨W.heap.size + 1, 0, none⟩ = false := by
  have h1 := cell_new1 W a t
  have h2 := cell_new1 (W.alloc (.cells #[a] t)) b u
  have h3 := cell_new1 ((W.alloc (.cells #[a] t)).alloc (.cells #[b] u)) c v
  have f2 : ((W.alloc (.cells #[a] t)).alloc (.cells #[b] u)).frozen? ⟨(W.alloc (.cells #[a] t)).heap.size, 0, none⟩ = false := by simp
  simp only [World.size_alloc] at h2 h3 f2
  have s2 : W.heap.size < (W.alloc (.cells #[a] t)).heap.size := by simp
  have s3 : W.heap.size + 1 < ((W.alloc (.cells #[a] t)).alloc (.cells #[b] u)).heap.size := by simp
  have b2 := below_alloc1 (W.alloc (.cells #[a] t)) (.cells #[b] u)
  have b3 := below_alloc1 ((W.alloc (.cells #[a] t)).alloc (.cells #[b] u)) (.cells #[c] v)
  exact ⟨(b3.cell (p := ⟨W.heap.size, 0, none⟩) (Nat.lt_trans (Nat.lt_succ_self _) s3)).trans ((b2.cell (p := ⟨W.heap.size, 0, none⟩) s2).trans h1), (b3.cell (p := ⟨W.heap.size + 1, 0, none⟩) s3).trans h2, h3, (b3.frozen (p := ⟨W.heap.size + 1, 0, none⟩) s3).trans f2⟩
theorem orders_any (A : Option Addr) (n c : Nat) (w : World) :
    Calls Try.prog 44 #[.slice A n c] w fun e w' => e = .returned (.func (.func 72) #[] #[.pointer (some ⟨w.heap.size, 0, none⟩)]) ∧ w' = w.alloc (.cells #[.slice A n c] 22) := by
  go_enter Try.func44, Try.ntmps44
  go_wp2
  go_ret
  exact ⟨rfl, rfl⟩
set_option maxHeartbeats 2000000 in
/-- the iterator gives all orders, in depth first order -/
theorem orders_all {n : Nat} (hn : n ≤ 8) (lb gl cb : Nat) (w0 : World) (hgl : gl < w0.heap.size) (hlb : lb < w0.heap.size) (hcb : cb < w0.heap.size) (hne : cb ≠ lb ∧ cb ≠ gl)
    (h1 : w0.cell? ⟨lb, 0, none⟩ = some (.slice (some ⟨gl, 0, none⟩) n n)) (h2 : ∀ k, k < n → w0.cell? ⟨gl, k, none⟩ = some (.int .i64 (k : Nat))) :
    SeqAll Try.prog 72 #[.pointer (some ⟨lb, 0, none⟩)] cb (fun W (x : List Nat) v => Rd W v (nI x)) (ordL n) w0 := by
  intro l J W hB hJ hY h0
  have hsz := hB.size
  have D : OrdD cb (W.heap.size + 1 + 1 + 1) (W.heap.size + 1) lb W.heap.size (W.heap.size + 1 + 1) gl := ⟨⟨by omega, hne.1, by omega, by omega, hne.2⟩, ⟨by omega, by omega, by omega, by omega⟩, ⟨by omega, by omega, by omega, by omega, by omega, by omega⟩⟩
  have l1 := (hB.cell (p := ⟨lb, 0, none⟩) hlb).trans h1
  have l2 : ∀ k, k < n → W.cell? ⟨gl, k, none⟩ = some (.int .i64 (k : Nat)) := fun k hk => (hB.cell (p := ⟨gl, k, none⟩) hgl).trans (h2 k hk)
  have E := Lib.hid (extend_any hn (W.heap.size + 1 + 1 + 1) (W.heap.size + 1) lb W.heap.size (W.heap.size + 1 + 1) gl l cb W.heap.size D J hJ ⟨by omega, by omega⟩ hY n [] [])
  have HJ := Lib.hid hJ
  have HJ0 := Lib.hid h0
  have HL1 := Lib.hid l1
  have HL2 := Lib.hid l2
  clear hJ hY h0 l1 l2 h1 h2
  go_enter Try.func72, Try.ntmps72
  go_wp2_with fail
  have hb3 := ((below_alloc1 W (.cells #[.func (.yield l) #[] #[]] 74)).alloc (by simp) (.cells #[.slice none 0 0] 22)).alloc (by simp; omega) (.cells #[.func (.func 73) #[] #[.pointer (some ⟨W.heap.size + 1, 0, none⟩), .pointer (some ⟨lb, 0, none⟩), .pointer (some ⟨W.heap.size, 0, none⟩), .pointer (some ⟨W.heap.size + 1 + 1, 0, none⟩)]] 77)
  have T3 : OrdT (((W.alloc (.cells #[.func (.yield l) #[] #[]] 74)).alloc (.cells #[.slice none 0 0] 22)).alloc (.cells #[.func (.func 73) #[] #[.pointer (some ⟨W.heap.size + 1, 0, none⟩), .pointer (some ⟨lb, 0, none⟩), .pointer (some ⟨W.heap.size, 0, none⟩), .pointer (some ⟨W.heap.size + 1 + 1, 0, none⟩)]] 77)) (W.heap.size + 1) lb W.heap.size (W.heap.size + 1 + 1) gl n l := ⟨(hb3.cell (p := ⟨lb, 0, none⟩) (by show lb < _; omega)).trans HL1.out, fun k hk => (hb3.cell (p := ⟨gl, k, none⟩) (by show gl < _; omega)).trans (HL2.out k hk), (three_new _ _ _ _ _ _ _).1, (three_new _ _ _ _ _ _ _).2.2.1, (three_new _ _ _ _ _ _ _).2.2.2⟩
  have O3 : OrdO (((W.alloc (.cells #[.func (.yield l) #[] #[]] 74)).alloc (.cells #[.slice none 0 0] 22)).alloc (.cells #[.func (.func 73) #[] #[.pointer (some ⟨W.heap.size + 1, 0, none⟩), .pointer (some ⟨lb, 0, none⟩), .pointer (some ⟨W.heap.size, 0, none⟩), .pointer (some ⟨W.heap.size + 1 + 1, 0, none⟩)]] 77)) (W.heap.size + 1 + 1 + 1) (W.heap.size + 1) [] := ⟨.slice none 0 0, (three_new _ _ _ _ _ _ _).2.1, Own.nil_ _ _⟩
  have J3 : J [] (((W.alloc (.cells #[.func (.yield l) #[] #[]] 74)).alloc (.cells #[.slice none 0 0] 22)).alloc (.cells #[.func (.func 73) #[] #[.pointer (some ⟨W.heap.size + 1, 0, none⟩), .pointer (some ⟨lb, 0, none⟩), .pointer (some ⟨W.heap.size, 0, none⟩), .pointer (some ⟨W.heap.size + 1 + 1, 0, none⟩)]] 77)) := HJ.out.alloc _ (HJ.out.alloc _ (HJ.out.alloc _ HJ0.out))
  refine (E.out (((W.alloc (.cells #[.func (.yield l) #[] #[]] 74)).alloc (.cells #[.slice none 0 0] 22)).alloc (.cells #[.func (.func 73) #[] #[.pointer (some ⟨W.heap.size + 1, 0, none⟩), .pointer (some ⟨lb, 0, none⟩), .pointer (some ⟨W.heap.size, 0, none⟩), .pointer (some ⟨W.heap.size + 1 + 1, 0, none⟩)]] 77)) (by simp) (by simp) (by simp) (by simp) J3 T3 O3).mono ?_
  rintro e w4 ⟨rfl, hj4, -, -, -⟩
  have HJ4 := Lib.hid hj4
  clear E HJ hb3 T3 O3 J3 hj4
  go_wp2
  go_end0
  exact ⟨⟨_, rfl⟩, HJ4.out⟩
end Go.Proofs.Ytceeplhkokajhab
