/- Texts put together: OrdW, AllT, RngB, Way, Perm, CSym, CkC, LexC, TourL. -/
import Derived.Test.YtkhjdijdcjgpfaaMKings06
import Derived.Test.YtkhjdijdcjgpfaaMKings07
import Derived.Test.YtkhjdijdcjgpfaaMKings04
import Derived.Laws.EntriesVeiled
import Derived.Test.YtkhjdijdcjgpfaaMKings05
import Derived.Test.YtkhjdijdcjgpfaaMKings02
import Derived.Test.YtkhjdijdcjgpfaaMKings01
import Derived.Test.YtkhjdijdcjgpfaaMKings03
import Derived.Deep.RegionHeld3
namespace Go.Proofs.Ytkhjdijdcjgpfaa
open Go.RowKit Go.Sort
set_option maxRecDepth 100000
attribute [local go_sem] Oper.semAt_some
theorem YieldAt.any {m m' : Nat} {P : Program} {l : Nat} {args : Array Value} {W : World} {R : Ending → World → Prop} (h : YieldAt Fence.wide m P l args W R) : YieldAt Fence.wide m' P l args W R := by
  obtain ⟨fn, tmps, assign, body, hy, hR⟩ := h
  exact ⟨fn, tmps, assign, body, hy, hR.1, fun c cs _ => hR.2 c cs (room_wide _)⟩
theorem frozen_of_block {w w' : World} {a : Addr} (h : w'.heap[a.block]? = w.heap[a.block]?) : w'.frozen? a = w.frozen? a := by
  simp [World.frozen?, h]
/-- the boxes of the iterator: order, list, yield, extend; the list's block -/
structure OrdD (cb base ob lb yb eb gl : Nat) : Prop where
  hcb : cb ≠ ob ∧ cb ≠ lb ∧ cb ≠ yb ∧ cb ≠ eb ∧ cb ≠ gl
  hob : ob ≠ lb ∧ ob ≠ yb ∧ ob ≠ eb ∧ ob ≠ gl
  hbs : cb < base ∧ ob < base ∧ lb < base ∧ yb < base ∧ eb < base ∧ gl < base
structure OrdT (W : World) (ob lb yb eb gl n l : Nat) : Prop where
  lst : W.cell? ⟨lb, 0, none⟩ = some (.slice (some ⟨gl, 0, none⟩) n n)
  arr : ∀ k, k < n → W.cell? ⟨gl, k, none⟩ = some (.int .i64 (k : Nat))
  yld : W.cell? ⟨yb, 0, none⟩ = some (.func (.yield l) #[] #[])
  ext : W.cell? ⟨eb, 0, none⟩ = some (.func (.func 140) #[] #[.pointer (some ⟨ob, 0, none⟩), .pointer (some ⟨lb, 0, none⟩), .pointer (some ⟨yb, 0, none⟩), .pointer (some ⟨eb, 0, none⟩)])
  frz : W.frozen? ⟨ob, 0, none⟩ = false
def OrdO (W : World) (base ob : Nat) (pre : List Nat) : Prop := ∃ v, W.cell? ⟨ob, 0, none⟩ = some v ∧ Own W base v (nI pre)
theorem OrdT.grown {W W' : World} {cb base ob lb yb eb gl n l : Nat} {row : Option Nat} (h : OrdT W ob lb yb eb gl n l) (D : OrdD cb base ob lb yb eb gl) (hg : W.grownBy W' row) (hr : ∀ r, row = some r → base ≤ r) (hs : ob < W.heap.size) : OrdT W' ob lb yb eb gl n l := by
  have hb := D.hbs
  have k : ∀ {p : Addr} {v : Value}, p.block < base → W.cell? p = some v → W'.cell? p = some v := fun hp hv =>
    (World.cell?_of_block (hg.block _ (World.block_lt_of_cell? W _ hv) (fun e => by have := hr _ e.symm; omega))).trans hv
  exact ⟨k (by show lb < base; omega) h.lst, fun j hj => k (by show gl < base; omega) (h.arr j hj), k (by show yb < base; omega) h.yld, k (by show eb < base; omega) h.ext,
    (frozen_of_block (hg.block ob hs (fun e => by have := hr _ e.symm; omega))).trans h.frz⟩
theorem OrdT.setOb {W : World} {cb base ob lb yb eb gl n l : Nat} (h : OrdT W ob lb yb eb gl n l) (D : OrdD cb base ob lb yb eb gl) (v : Value) : OrdT (W.setCell ⟨ob, 0, none⟩ v) ob lb yb eb gl n l := by
  have ho := D.hob
  have k : ∀ {p : Addr} {u : Value}, p.block ≠ ob → W.cell? p = some u → (W.setCell ⟨ob, 0, none⟩ v).cell? p = some u := fun hp hv =>
    (World.cell?_setCell_other _ _ _ _ (fun e => hp (by rw [← e]))).trans hv
  exact ⟨k (Ne.symm ho.1) h.lst, fun j hj => k (Ne.symm ho.2.2.2) (h.arr j hj), k (Ne.symm ho.2.1) h.yld, k (Ne.symm ho.2.2.1) h.ext, by rw [World.frozen?_setCell]; exact h.frz⟩
theorem own_kpc {cb base : Nat} {W W' : World} {v : Value} {xs : List Int} (h : Own W base v xs) (k : KpC cb W W') (hb : cb < base) : Own W' base v xs := by
  refine ⟨h.1, ?_⟩
  rcases h.2 with h0 | ⟨g, cap, cur, hv, hg, hh, r⟩
  · exact .inl h0
  · exact .inr ⟨g, cap, cur, hv, hg, k.same _ _ (by omega) hh rfl, r⟩
theorem OrdT.kpc {W W' : World} {cb base ob lb yb eb gl n l : Nat} (h : OrdT W ob lb yb eb gl n l) (D : OrdD cb base ob lb yb eb gl) (k : KpC cb W W') {v : Value} (hv : W.cell? ⟨ob, 0, none⟩ = some v) : OrdT W' ob lb yb eb gl n l := by
  have hc := D.hcb
  exact ⟨k.cell (Ne.symm hc.2.1) h.lst, fun j hj => k.cell (Ne.symm hc.2.2.2.2) (h.arr j hj), k.cell (Ne.symm hc.2.2.1) h.yld, k.cell (Ne.symm hc.2.2.2.1) h.ext,
    (frozen_of_block (k.block (p := ⟨ob, 0, none⟩) (Ne.symm hc.1) hv)).trans h.frz⟩
def ExtP (J : List (List Nat) → World → Prop) (done : List (List Nat)) (base ob lb yb eb gl n l : Nat) (pre : List Nat) (e : Ending) (w' : World) : Prop :=
  e = .returned (.bool true) ∧ J done w' ∧ OrdT w' ob lb yb eb gl n l ∧ OrdO w' base ob pre ∧ base ≤ w'.heap.size
set_option maxHeartbeats 2000000 in
theorem extend_zero {n : Nat} (base ob lb yb eb gl l cb : Nat) (D : OrdD cb base ob lb yb eb gl) (J : List (List Nat) → World → Prop)
    (hY : ∀ done x v W1, J done W1 → Rd W1 v (nI x) → x ∈ ordL n → YieldAt Fence.wide 0 Try.prog l #[v] W1 fun e W' => e = .returned (.bool true) ∧ J (done ++ [x]) W' ∧ KpC cb W1 W')
    (pre : List Nat) (done : List (List Nat)) (W : World) (hp : pre ∈ ordL n) (hW : base ≤ W.heap.size) (hj : J done W) (T : OrdT W ob lb yb eb gl n l) (O : OrdO W base ob pre) :
    Calls Try.prog 140 #[.pointer (some ⟨ob, 0, none⟩), .pointer (some ⟨lb, 0, none⟩), .pointer (some ⟨yb, 0, none⟩), .pointer (some ⟨eb, 0, none⟩)] W (ExtP J (done ++ [pre]) base ob lb yb eb gl n l pre) := by
  obtain ⟨v, hv, ho⟩ := O
  have hl : pre.length = n := (mem_ordL.1 hp).1
  obtain ⟨fn, tmps, assign, body, hy, hR⟩ := YieldAt.any (m' := 0) (hY done pre v W hj ho.rd hp)
  obtain ⟨A, c, rfl, -, -, -⟩ := ho.form
  rw [nI_len, hl] at hv hy ho
  have HT := Lib.hid T
  have HO := Lib.hid ho
  have HV := Lib.hid hv
  have l1 := T.lst
  have l2 := T.yld
  clear T ho hl
  refine callsIn_wide.1 (callsIn_of_wp (n := 0) Try.func140 rfl trivial ?_ rfl)
  simp only [Try.ntmps140, List.size_toArray, List.length_cons, List.length_nil, Nat.reduceAdd, Nat.reduceSub, Array.replicate_succ, Array.replicate_zero, List.push_toArray, List.append_toArray, List.nil_append, List.cons_append]
  gi_wp2_with (refine ⟨rfl, ?_⟩; refine hR.mono ?_; clear hR; rintro e W1 ⟨rfl, hj1, hk1⟩)

  go_ret
  exact ⟨rfl, hj1, HT.out.kpc D hk1 HV.out, ⟨_, hk1.cell (Ne.symm D.hcb.1) HV.out, own_kpc HO.out hk1 D.hbs.1⟩, Nat.le_trans hW hk1.size⟩
theorem ordFrom_succ (n m : Nat) (pre : List Nat) : ordFrom n (m + 1) pre = ((List.range n).filter fun b => !pre.contains b).flatMap fun b => ordFrom n m (pre ++ [b]) := rfl
/-- what has come before the k-th -/
def ordK (n m : Nat) (pre : List Nat) (k : Nat) : List (List Nat) := ((List.range k).filter fun b => !pre.contains b).flatMap fun b => ordFrom n m (pre ++ [b])
theorem ordK_no {n m k : Nat} {pre : List Nat} (h : pre.contains k = true) : ordK n m pre (k + 1) = ordK n m pre k := by
  have : k ∈ pre := by simpa using h
  unfold ordK; rw [List.range_succ, List.filter_append]; simp [this]
theorem ordK_yes {n m k : Nat} {pre : List Nat} (h : pre.contains k = false) : ordK n m pre (k + 1) = ordK n m pre k ++ ordFrom n m (pre ++ [k]) := by
  have : k ∉ pre := by simpa using h
  unfold ordK; rw [List.range_succ, List.filter_append]; simp [this]
theorem contains_nI (pre : List Nat) (k : Nat) : containsI (nI pre) (k : Int) = pre.contains k := by
  have h : ((k : Nat) : Int) ∈ nI pre ↔ k ∈ pre := by
    unfold nI
    rw [List.mem_map]
    constructor
    · rintro ⟨a, ha, e⟩
      have e : a = k := by omega
      rw [← e]; exact ha
    · intro h; exact ⟨k, h, rfl⟩
  unfold containsI
  rw [Bool.eq_iff_iff]
  simpa using h
set_option maxHeartbeats 4000000 in
theorem extend_any {n : Nat} (hn : n ≤ 8) (base ob lb yb eb gl l cb B0 : Nat) (D : OrdD cb base ob lb yb eb gl) (J : List (List Nat) → World → Prop) (hJ : AbN B0 J) (hB0 : B0 ≤ ob ∧ B0 ≤ base)
    (hY : ∀ done x v W1, J done W1 → Rd W1 v (nI x) → x ∈ ordL n → YieldAt Fence.wide 0 Try.prog l #[v] W1 fun e W' => e = .returned (.bool true) ∧ J (done ++ [x]) W' ∧ KpC cb W1 W') :
    ∀ (m : Nat) (pre : List Nat) (done : List (List Nat)) (W : World), pre.length + m = n → pre.Nodup → (∀ x ∈ pre, x < n) → base ≤ W.heap.size → J done W → OrdT W ob lb yb eb gl n l → OrdO W base ob pre →
    Calls Try.prog 140 #[.pointer (some ⟨ob, 0, none⟩), .pointer (some ⟨lb, 0, none⟩), .pointer (some ⟨yb, 0, none⟩), .pointer (some ⟨eb, 0, none⟩)] W (ExtP J (done ++ ordFrom n m pre) base ob lb yb eb gl n l pre) := by
  intro m
  induction m with
  | zero =>
    intro pre done W hl hd hx hW hj T O
    exact extend_zero base ob lb yb eb gl l cb D J hY pre done W (mem_ordL.2 ⟨by omega, hx, hd⟩) hW hj T O
  | succ m ih =>
    intro pre done W hl hd hx hW hj T O
    have IH := Lib.hid ih
    have HYY := Lib.hid hY
    have HJ := Lib.hid hJ
    have HJ0 := Lib.hid hj
    have HX := Lib.hid hx
    have HD := Lib.hid hd
    clear ih hY hJ hj hx hd
    obtain ⟨q, hq⟩ : ∃ q, pre.length = q := ⟨_, rfl⟩
    obtain ⟨v, hv, ho⟩ := O
    obtain ⟨A, c, rfl, hcm, hlc, -⟩ := ho.form
    rw [nI_len, hq] at hv ho hlc
    have hqn : (((q : Nat) : Int) == ((n : Nat) : Int)) = false := by simp; omega
    have HQ := Lib.hid hq
    have HO := Lib.hid ho
    have HT := Lib.hid T
    have l1 := T.lst
    have HV := Lib.hid hv
    have hl2 : q + (m + 1) = n := by rw [← hq]; exact hl
    have hW0 : ob < W.heap.size := Nat.lt_of_lt_of_le D.hbs.2.1 hW
    have HSUC := Lib.hid (ordFrom_succ n m pre)
    have HK0 : Hid (J (done ++ ordK n m pre 0) W) := by unfold Hid ordK; simpa using HJ0.out
    clear T ho hq hl
    go_enter Try.func140, Try.ntmps140
    go_wp2
    clear l1 hv
    go_loopw [18] (fun i wr => ∃ k : Nat, k ≤ n ∧ i = .int .i64 k ∧ Hid (J (done ++ ordK n m pre k) wr) ∧ Hid (OrdT wr ob lb yb eb gl n l) ∧ Hid (OrdO wr base ob pre) ∧ base ≤ wr.heap.size) (fun i _ => n - (intOf i).toNat)
    case atStart => exact ⟨0, by omega, rfl, HK0.out, HT.out, ⟨_, HV.out, HO.out⟩, hW⟩
    case round =>
      obtain ⟨wo, rfl⟩ : ∃ x, x = wr := ⟨_, rfl⟩
      obtain ⟨k, hk, rfl, HJK, HTK, HOK, hwk⟩ := hrel
      by_cases hlt : k < n
      · obtain ⟨vk, hvk, hok⟩ := HOK.out
        have ck := HTK.out.arr k hlt
        have hobw : ob < wo.heap.size := Nat.lt_of_lt_of_le D.hbs.2.1 hwk
        have HVK := Lib.hid hvk
        have HOW := Lib.hid hok
        rcases hc : pre.contains k with _ | _
        · have hcc : containsI (nI pre) (k : Int) = false := (contains_nI pre k).trans hc
          have HC := Lib.hid hc
          clear hc hok
          have hkm : (k : Nat) ∉ pre := by simpa using HC.out
          have HPL : Hid ((pre ++ [k]).length + m = n) := by unfold Hid; rw [List.length_append, HQ.out]; simp; omega
          have HPN : Hid ((pre ++ [k]).Nodup) := by
            unfold Hid
            rw [List.nodup_append]
            exact ⟨HD.out, by simp, fun x hx y hy => by rw [List.mem_singleton] at hy; subst hy; intro e; subst e; exact hkm hx⟩
          have HPX : Hid (∀ x ∈ pre ++ [k], x < n) := fun x hx => by
            rw [List.mem_append, List.mem_singleton] at hx
            rcases hx with hx | rfl
            · exact HX.out x hx
            · exact hlt
          have hlen1 : (nI pre).length ≤ 1099511627776 := by rw [nI_len, HQ.out]; omega
          have HSN : Hid ((nI pre ++ [(k : Int)]).length = q + 1) := by unfold Hid; rw [List.length_append, nI_len, HQ.out]; rfl
          have HSN2 : Hid ((nI (pre ++ [k])).length = q + 1) := by unfold Hid; rw [nI_snoc]; exact HSN.out
          clear hkm
          go_wp2_with (first
            | (go_at_call 86; refine (contains_any _ (nI pre) _ _ HOW.out.rd).mono ?_; rintro e w1 ⟨rfl, rfl⟩)
            | (at_builtin; refine wp_append1 _ rfl (.tmp 25) (.tmp 27) rfl base _ (nI pre) (k : Int) rfl HOW.out (by simp [Act.eval]) hlen1 hwk ?_; intro v5 w5 hown1 hg1
               obtain ⟨A5, c5, rfl, -, -, -⟩ := hown1.form
               rw [HSN.out] at hown1 ⊢
               have HO5 := Lib.hid hown1
               have HT5 := Lib.hid (HTK.out.grown D hg1 (fun r hr => (HOW.out.lt r hr).1) hobw)
               have v5 := (World.cell?_of_block (a := ⟨ob, 0, none⟩) (hg1.block ob hobw (fun e => by have h1 := (HOW.out.lt _ e.symm).1; have h2 := D.hbs.2.1; omega))).trans HVK.out
               have f5 := HT5.out.frz
               have e6 := (HT5.out.setOb D (.slice A5 (q + 1) c5)).ext
               have HJ6 := Lib.hid (HJ.out _ _ _ _ (HJ.out _ _ _ _ HJK.out hg1 (fun r hr => Nat.le_trans hB0.2 (HOW.out.lt r hr).1)) (setCell_grown w5 ⟨ob, 0, none⟩ (.slice A5 (q + 1) c5)) (fun r hr => by injection hr with hr; rw [← hr]; exact hB0.1))
               have HO6 := Lib.hid (show OrdO (w5.setCell ⟨ob, 0, none⟩ (.slice A5 (q + 1) c5)) base ob (pre ++ [k]) from ⟨_, World.cell?_setCell_same _ _ _ v5, by rw [nI_snoc]; exact HO5.out.kept (setCell_grown w5 ⟨ob, 0, none⟩ _) (own_ne (fun r hr => (HO5.out.lt r hr).1) D.hbs.2.1)⟩)
               have hs6 : base ≤ (w5.setCell ⟨ob, 0, none⟩ (.slice A5 (q + 1) c5)).heap.size := by have := hg1.size; simp; omega
               clear hown1 hg1)
            | (go_at_call 140; refine (IH.out (pre ++ [k]) (done ++ ordK n m pre k) _ HPL.out HPN.out HPX.out hs6 HJ6.out (HT5.out.setOb D _) HO6.out).mono ?_
               rintro e w7 ⟨rfl, hj7, ht7, ⟨v7, hv7, ho7⟩, hs7⟩
               obtain ⟨A7, c7, rfl, -, hlc7, hA7⟩ := ho7.form
               rw [HSN2.out] at hv7 ho7 hlc7 hA7
               obtain ⟨g7, rfl, -, -⟩ := hA7 (by omega)
               have HJ7 := Lib.hid hj7
               have HT7 := Lib.hid ht7
               have HO7 := Lib.hid ho7
               have HV7 := Lib.hid hv7
               have f7 := ht7.frz
               clear v5 f5 e6 hj7 ht7 ho7 hA7))
          go_roundw
          case rel =>
            have hg8 := setCell_grown w7 ⟨ob, 0, none⟩ (.slice (some ⟨g7, 0, none⟩) q c7)
            refine ⟨k + 1, by omega, by go_num, ?_, HT7.out.setOb D _, ⟨_, World.cell?_setCell_same _ _ _ HV7.out, ?_⟩, by simp; exact hs7⟩
            · have := HJ.out _ _ _ _ HJ7.out hg8 (fun r hr => by injection hr with hr; rw [← hr]; exact hB0.1)
              rw [List.append_assoc, ← ordK_yes HC.out] at this
              exact this
            · have h7 := HO7.out
              rw [nI_snoc] at h7
              exact (own_prefix (by rw [nI_len]; exact HQ.out) h7).kept hg8 (own_ne (fun r hr => (HO7.out.lt r hr).1) D.hbs.2.1)
          case measure => simp [intOf]; omega
        · have hcc : containsI (nI pre) (k : Int) = true := (contains_nI pre k).trans hc
          have HC := Lib.hid hc
          clear hc hok
          go_wp2_with (go_at_call 86; refine (contains_any _ (nI pre) _ _ HOW.out.rd).mono ?_; rintro e w1 ⟨rfl, rfl⟩)
          go_roundw
          case rel => exact ⟨k + 1, by omega, by go_num, by rw [ordK_no HC.out]; exact HJK.out, HTK.out, HOK.out, hwk⟩
          case measure => simp [intOf]; omega
      · obtain rfl : n = k := by omega
        go_wp2
        go_ret
        exact ⟨rfl, HJK.out, HTK.out, HOK.out, hwk⟩
theorem ordFrom_zero (n : Nat) : ordFrom n n [] = ordL n := rfl
theorem three_new (W : World) (a b c : Value) (t u v : TypeId) :
    (((W.alloc (.cells #[a] t)).alloc (.cells #[b] u)).alloc (.cells #[c] v)).cell? ⟨W.heap.size, 0, none⟩ = some a ∧ (((W.alloc (.cells #[a] t)).alloc (.cells #[b] u)).alloc (.cells #[c] v)).cell? ⟨W.heap.size + 1, 0, none⟩ = some b ∧
    (((W.alloc (.cells #[a] t)).alloc (.cells #[b] u)).alloc (.cells #[c] v)).cell? ⟨W.heap.size + 1 + 1, 0, none⟩ = some c ∧ (((W.alloc (.cells #[a] t)).alloc (.cells #[b] u)).alloc (.cells #[c] v)).frozen? ⟨W.heap.size + 1, 0, none⟩ = false := by
  have h1 := cell_new1 W a t
  have h2 := cell_new1 (W.alloc (.cells #[a] t)) b u
  have h3 := cell_new1 ((W.alloc (.cells #[a] t)).alloc (.cells #[b] u)) c v
  have f2 : ((W.alloc (.cells #[a] t)).alloc (.cells #[b] u)).frozen? ⟨(W.alloc (.cells #[a] t)).heap.size, 0, none⟩ = false := by simp
  simp only [World.size_alloc] at h2 h3 f2
  have s2 : W.heap.size < (W.alloc (.cells #[a] t)).heap.size := by simp
  have s3 : W.heap.size + 1 < ((W.alloc (.cells #[a] t)).alloc (.cells #[b] u)).heap.size := by simp
  have b2 := below_alloc1 (W.alloc (.cells #[a] t)) (.cells #[b] u)
  have b3 := below_alloc1 ((W.alloc (.cells #[a] t)).alloc (.cells #[b] u)) (.cells #[c] v)
  exact ⟨(b3.cell (p := ⟨W.heap.size, 0, none⟩) (Nat.lt_trans (Nat.lt_succ_self _) s3)).trans ((b2.cell (p := ⟨W.heap.size, 0, none⟩) s2).trans h1), (b3.cell (p := ⟨W.heap.size + 1, 0, none⟩) s3).trans h2, h3, (b3.frozen (p := ⟨W.heap.size + 1, 0, none⟩) s3).trans f2⟩
theorem orders_any (A : Option Addr) (n c : Nat) (w : World) :
    Calls Try.prog 132 #[.slice A n c] w fun e w' => e = .returned (.func (.func 139) #[] #[.pointer (some ⟨w.heap.size, 0, none⟩)]) ∧ w' = w.alloc (.cells #[.slice A n c] 23) := by
  go_enter Try.func132, Try.ntmps132
  go_wp2
  go_ret
  exact ⟨rfl, rfl⟩
set_option maxHeartbeats 2000000 in
/-- the iterator gives all orders, in depth first order -/
theorem orders_all {n : Nat} (hn : n ≤ 8) (lb gl cb : Nat) (w0 : World) (hgl : gl < w0.heap.size) (hlb : lb < w0.heap.size) (hcb : cb < w0.heap.size) (hne : cb ≠ lb ∧ cb ≠ gl)
    (h1 : w0.cell? ⟨lb, 0, none⟩ = some (.slice (some ⟨gl, 0, none⟩) n n)) (h2 : ∀ k, k < n → w0.cell? ⟨gl, k, none⟩ = some (.int .i64 (k : Nat))) :
    SeqAll Try.prog 139 #[.pointer (some ⟨lb, 0, none⟩)] cb (fun W (x : List Nat) v => Rd W v (nI x)) (ordL n) w0 := by
  intro l J W hB hJ hY h0
  have hsz := hB.size
  have D : OrdD cb (W.heap.size + 1 + 1 + 1) (W.heap.size + 1) lb W.heap.size (W.heap.size + 1 + 1) gl := ⟨⟨by omega, hne.1, by omega, by omega, hne.2⟩, ⟨by omega, by omega, by omega, by omega⟩, ⟨by omega, by omega, by omega, by omega, by omega, by omega⟩⟩
  have l1 := (hB.cell (p := ⟨lb, 0, none⟩) hlb).trans h1
  have l2 : ∀ k, k < n → W.cell? ⟨gl, k, none⟩ = some (.int .i64 (k : Nat)) := fun k hk => (hB.cell (p := ⟨gl, k, none⟩) hgl).trans (h2 k hk)
  have E := Lib.hid (extend_any hn (W.heap.size + 1 + 1 + 1) (W.heap.size + 1) lb W.heap.size (W.heap.size + 1 + 1) gl l cb W.heap.size D J hJ ⟨by omega, by omega⟩ hY n [] [])
  have HJ := Lib.hid hJ
  have HJ0 := Lib.hid h0
  have HL1 := Lib.hid l1
  have HL2 := Lib.hid l2
  clear hJ hY h0 l1 l2 h1 h2
  go_enter Try.func139, Try.ntmps139
  go_wp2_with fail
  have hb3 := ((below_alloc1 W (.cells #[.func (.yield l) #[] #[]] 71)).alloc (by simp) (.cells #[.slice none 0 0] 23)).alloc (by simp; omega) (.cells #[.func (.func 140) #[] #[.pointer (some ⟨W.heap.size + 1, 0, none⟩), .pointer (some ⟨lb, 0, none⟩), .pointer (some ⟨W.heap.size, 0, none⟩), .pointer (some ⟨W.heap.size + 1 + 1, 0, none⟩)]] 69)
  have T3 : OrdT (((W.alloc (.cells #[.func (.yield l) #[] #[]] 71)).alloc (.cells #[.slice none 0 0] 23)).alloc (.cells #[.func (.func 140) #[] #[.pointer (some ⟨W.heap.size + 1, 0, none⟩), .pointer (some ⟨lb, 0, none⟩), .pointer (some ⟨W.heap.size, 0, none⟩), .pointer (some ⟨W.heap.size + 1 + 1, 0, none⟩)]] 69)) (W.heap.size + 1) lb W.heap.size (W.heap.size + 1 + 1) gl n l := ⟨(hb3.cell (p := ⟨lb, 0, none⟩) (by show lb < _; omega)).trans HL1.out, fun k hk => (hb3.cell (p := ⟨gl, k, none⟩) (by show gl < _; omega)).trans (HL2.out k hk), (three_new _ _ _ _ _ _ _).1, (three_new _ _ _ _ _ _ _).2.2.1, (three_new _ _ _ _ _ _ _).2.2.2⟩
  have O3 : OrdO (((W.alloc (.cells #[.func (.yield l) #[] #[]] 71)).alloc (.cells #[.slice none 0 0] 23)).alloc (.cells #[.func (.func 140) #[] #[.pointer (some ⟨W.heap.size + 1, 0, none⟩), .pointer (some ⟨lb, 0, none⟩), .pointer (some ⟨W.heap.size, 0, none⟩), .pointer (some ⟨W.heap.size + 1 + 1, 0, none⟩)]] 69)) (W.heap.size + 1 + 1 + 1) (W.heap.size + 1) [] := ⟨.slice none 0 0, (three_new _ _ _ _ _ _ _).2.1, Own.nil_ _ _⟩
  have J3 : J [] (((W.alloc (.cells #[.func (.yield l) #[] #[]] 71)).alloc (.cells #[.slice none 0 0] 23)).alloc (.cells #[.func (.func 140) #[] #[.pointer (some ⟨W.heap.size + 1, 0, none⟩), .pointer (some ⟨lb, 0, none⟩), .pointer (some ⟨W.heap.size, 0, none⟩), .pointer (some ⟨W.heap.size + 1 + 1, 0, none⟩)]] 69)) := HJ.out.alloc _ (HJ.out.alloc _ (HJ.out.alloc _ HJ0.out))
  refine (E.out (((W.alloc (.cells #[.func (.yield l) #[] #[]] 71)).alloc (.cells #[.slice none 0 0] 23)).alloc (.cells #[.func (.func 140) #[] #[.pointer (some ⟨W.heap.size + 1, 0, none⟩), .pointer (some ⟨lb, 0, none⟩), .pointer (some ⟨W.heap.size, 0, none⟩), .pointer (some ⟨W.heap.size + 1 + 1, 0, none⟩)]] 69)) (by simp) (by simp) (by simp) (by simp) J3 T3 O3).mono ?_
  rintro e w4 ⟨rfl, hj4, -, -, -⟩
  have HJ4 := Lib.hid hj4
  clear E HJ hb3 T3 O3 J3 hj4
  go_wp2
  go_end0
  exact ⟨⟨_, rfl⟩, HJ4.out⟩
end Go.Proofs.Ytkhjdijdcjgpfaa

namespace Go.Proofs.Ytkhjdijdcjgpfaa
open Go.RowKit Go.Sort
set_option maxRecDepth 100000
attribute [local go_sem] Oper.semAt_some
theorem allTours_any (n : Int) (w : World) :
    Calls Try.prog 78 #[.int .i64 n] w fun e w' => e = .returned (.func (.func 122) #[] #[.pointer (some ⟨w.heap.size, 0, none⟩)]) ∧ w' = w.alloc (.cells #[.int .i64 n] 3) := by
  go_enter Try.func78, Try.ntmps78
  go_wp2
  go_ret
  exact ⟨rfl, rfl⟩
theorem at1_any (a b : Nat) (W : World) :
    Calls Try.prog 123 #[.int .i64 a, .int .i64 b] W fun e w' => e = .returned (.bool (decide (b < a))) ∧ Below W.heap.size W w' := by
  go_enter Try.func123, Try.ntmps123
  go_wp2
  go_ret
  exact ⟨ret_bool (by simp), Below.refl _ _⟩
theorem enters_at1 : Enters 123 := fun _ _ => by kernel_rfl
/-- the tour that is made, in its box -/
structure AlT (W0 W : World) (nb bt n : Nat) (xs : List Int) : Prop where
  tour : ∃ sl, BoxF W bt n sl ∧ Own W W0.heap.size sl xs ∧ ∀ k, sl.ownBlock = some k → k ≠ bt
  num : W.cell? ⟨nb, 0, none⟩ = some (.int .i64 n)
theorem AlT.below {W0 W W' : World} {nb bt n : Nat} {xs : List Int} (h : AlT W0 W nb bt n xs) (hb : Below W.heap.size W W') : AlT W0 W' nb bt n xs := by
  obtain ⟨sl, h1, h2, h3⟩ := h.tour
  exact ⟨⟨sl, h1.below hb, h2.below hb, h3⟩, (hb.cell (World.block_lt_of_cell? _ _ h.num)).trans h.num⟩
theorem AlT.put {W0 W : World} {nb bt n : Nat} {xs ys : List Int} {sl : Value} (h : AlT W0 W nb bt n xs) (hnb : nb ≠ bt) (ho : Own W W0.heap.size sl ys) (hne : ∀ k, sl.ownBlock = some k → k ≠ bt) :
    AlT W0 ((W.setCell ⟨bt, 0, none⟩ (.int .i64 n)).setCell ⟨bt, 1, none⟩ sl) nb bt n ys := by
  obtain ⟨sl0, h1, h2, h3⟩ := h.tour
  have g1 := setCell_grown W ⟨bt, 0, none⟩ (.int .i64 n)
  have g2 := setCell_grown (W.setCell ⟨bt, 0, none⟩ (.int .i64 n)) ⟨bt, 1, none⟩ sl
  have hn : sl.ownBlock = none ∨ sl.ownBlock ≠ some bt := by
    rcases q : sl.ownBlock with _ | k
    · exact .inl rfl
    · right; intro e; injection e with e; exact hne k q e
  exact ⟨⟨sl, h1.set01 n sl, (ho.kept g1 hn).kept g2 hn, hne⟩, (World.cell?_setCell_other _ _ _ _ (by first | (simp; done) | (simp; exact fun e => hnb e.symm) | (simp; exact hnb))).trans ((World.cell?_setCell_other _ _ _ _ (by first | (simp; done) | (simp; exact fun e => hnb e.symm) | (simp; exact hnb))).trans h.num)⟩
set_option maxHeartbeats 8000000 in
/-- the iterator gives the tours of all codes, in order -/
theorem allTours_all {n : Nat} (h1 : 1 ≤ n) (h5 : n ≤ 5) (nb cb : Nat) (w0 : World) (hnb : nb < w0.heap.size) (hcb : cb < w0.heap.size) (hne : cb ≠ nb) (hc : w0.cell? ⟨nb, 0, none⟩ = some (.int .i64 n)) :
    SeqAll Try.prog 122 #[.pointer (some ⟨nb, 0, none⟩)] cb (fun W (x : Nat) v => ∃ sl, v = .agg #[.int .i64 n, sl] ∧ Rd W sl (allL n x)) (List.range (2 ^ (n * (n - 1) / 2))) w0 := by
  intro l J W hB hJ hY h0
  have hsz := hB.size
  have hcell := (hB.cell (p := ⟨nb, 0, none⟩) hnb).trans hc
  have HJ := Lib.hid hJ
  have HY := Lib.hid hY
  have HJ0 := Lib.hid h0
  have HC0 := Lib.hid hcell
  clear hJ hY h0 hcell hc
  have hM : n * (n - 1) ≤ 20 := by
    have : n * (n - 1) ≤ 5 * 4 := Nat.mul_le_mul h5 (by omega)
    omega
  obtain ⟨M, hMe⟩ : ∃ M, M = n * (n - 1) := ⟨_, rfl⟩
  obtain ⟨p, hpe⟩ : ∃ p, p = M / 2 := ⟨_, rfl⟩
  rw [← hMe, ← hpe]
  rw [← hMe] at hM
  have hp10 : p ≤ 10 := by omega
  obtain ⟨Q, hQ⟩ : ∃ Q, Q = 2 ^ p := ⟨_, rfl⟩
  have hQ1 : Q ≤ 1024 := by rw [hQ]; exact Nat.pow_le_pow_right (n := 2) (j := 10) (by decide) hp10
  have f1 : IntKind.i64.wrap ((n : Int) - 1) = ((n - 1 : Nat) : Int) := by rw [IntWalk.i64_in _ (by omega)]; omega
  have hmm : (n : Int) * ((n - 1 : Nat) : Int) = (M : Int) := by rw [hMe]; simp
  have f2 : IntKind.i64.wrap ((n : Int) * ((n - 1 : Nat) : Int)) = (M : Int) := by rw [hmm]; exact IntWalk.i64_in _ (by omega)
  have f3 : Int.tdiv (M : Int) 2 = (p : Int) := by rw [Int.tdiv_eq_ediv_of_nonneg (by omega)]; omega
  have f3' : (M : Int) / 2 = (p : Int) := by omega
  have f4 : wrap64 (2 ^ p) = (Q : Int) := by rw [hQ, shl_nat p (by omega)]
  have f5 : IntKind.i64.wrap (2 ^ p) = (Q : Int) := by have := i64_shl_one p (by omega); rw [Int.one_mul] at this; rw [hQ]; exact this
  have HQP : Hid (Q = 2 ^ (n * (n - 1) / 2)) := Lib.hid (by rw [hQ, hpe, hMe])
  rw [← hQ]
  clear hMe hpe hQ
  have y0 := HC0.out
  refine callsIn_wide.1 (callsIn_of_wp (n := 0) Try.func122 rfl trivial ?_ rfl)
  simp only [Try.ntmps122, List.size_toArray, List.length_cons, List.length_nil, Nat.reduceAdd, Nat.reduceSub, Array.replicate_succ, Array.replicate_zero, List.push_toArray, List.append_toArray, List.nil_append, List.cons_append]
  gi_wp2
  clear y0 f1 f2 f3 f3' f4 f5 hmm
  gi_loopw [14] (fun t14 wr => ∃ c : Nat, c ≤ Q ∧ t14 = .int .i64 c ∧ Hid (J (List.range c) wr) ∧ W.heap.size ≤ wr.heap.size ∧ Hid (wr.cell? ⟨nb, 0, none⟩ = some (.int .i64 n))) (fun t14 _ => Q - (intOf t14).toNat)
  case atStart => exact ⟨0, by omega, rfl, HJ0, Nat.le_refl _, HC0⟩
  case round =>
    obtain ⟨wo, rfl⟩ : ∃ x, x = wr := ⟨_, rfl⟩
    obtain ⟨c, hcQ, rfl, HJc, hWo, HCc⟩ := hrel
    clear HJ0 HC0
    by_cases hlt : c < Q
    · have y0 := HCc.out
      gi_wp2_with fail
      refine ⟨trivial, rfl, ?_⟩
      refine (callsIn_wide.2 (tourOf_any n h1 (by omega) 123 #[] enters_at1 (fun a b => decide (b < a)) wo (fun a b ha hb W' _ => at1_any a b W'))).mono ?_
      rintro e w1 ⟨sl1, rfl, ho1, hb1⟩
      obtain ⟨Y1, cy1, rfl, -, -, -⟩ := ho1.form
      rw [toL_len] at ho1 ⊢
      have y1 := (hb1.cell (World.block_lt_of_cell? _ _ HCc.out)).trans HCc.out
      have y2 := ((below_alloc1 w1 (.cells #[.int .i64 n, .slice Y1 n cy1] 25)).cell (World.block_lt_of_cell? _ _ y1)).trans y1
      have HT1 : Hid (AlT W (w1.alloc (.cells #[.int .i64 n, .slice Y1 n cy1] 25)) nb w1.heap.size n (al0 n)) := Lib.hid ⟨⟨.slice Y1 n cy1, BoxF.new w1 n _ 25, (ho1.mono hWo).below (below_alloc1 _ _), fun k hk => by have := (ho1.lt k hk).2; omega⟩, y2⟩
      have HJ1 : Hid (J (List.range c) (w1.alloc (.cells #[.int .i64 n, .slice Y1 n cy1] 25))) := Lib.hid (HJ.out _ _ _ none HJc.out (grown_below (Below.then hb1 (below_alloc1 _ _)) none) (fun r e => by cases e))
      have hnbt : nb ≠ w1.heap.size := by have := hb1.size; omega
      have hWbt : W.heap.size ≤ w1.heap.size := by have := hb1.size; omega
      clear ho1 hb1 HJc HCc y0 y1
      gi_wp2
      generalize w1.alloc (.cells #[.int .i64 n, .slice Y1 n cy1] 25) = w2 at *
      generalize w1.heap.size = bt at *
      clear y2
      gi_loopw [4, 21] (fun t4 t21 wr => ∃ (a left : Nat) (ys : List Int), a ≤ n ∧ t21 = .int .i64 a ∧ t4 = .int .i64 left ∧ left ≤ Q ∧ Hid (tourP n ys) ∧ Hid (alOut n (n - a) a (left, ys) = alOut n n 0 (c, al0 n)) ∧ Hid (AlT W wr nb bt n ys) ∧ Hid (J (List.range c) wr)) (fun _ t21 _ => n - (intOf t21).toNat)
      case atStart => exact ⟨0, c, al0 n, by omega, rfl, rfl, hcQ, Lib.hid (al0_tour h1 (by omega)), Lib.hid rfl, HT1, HJ1⟩
      case round =>
        obtain ⟨wi, rfl⟩ : ∃ x, x = wr := ⟨_, rfl⟩
        obtain ⟨a, left, ys, ha, rfl, rfl, hleft, HP, HE, HT, HJi⟩ := hrel
        clear HT1 HJ1
        by_cases hlta : a < n
        · as_aux_lemma =>
            have y0 := HT.out.num
            have HE1 : Hid (alOut n (n - (a + 1)) (a + 1) (alIn a (n - (a + 1)) (a + 1) (left, ys)) = alOut n n 0 (c, al0 n)) := Lib.hid (by
              rw [← HE.out, show n - a = (n - (a + 1)) + 1 by omega]; rfl)
            clear HE
            gi_wp2
            clear y0
            gi_loopw [4, 7] (fun t4 t7 wr => ∃ (b left2 : Nat) (zs : List Int), a < b ∧ b ≤ n ∧ t7 = .int .i64 b ∧ t4 = .int .i64 left2 ∧ left2 ≤ Q ∧ Hid (tourP n zs) ∧ Hid (alOut n (n - (a + 1)) (a + 1) (alIn a (n - b) b (left2, zs)) = alOut n n 0 (c, al0 n)) ∧ Hid (AlT W wr nb bt n zs) ∧ Hid (J (List.range c) wr)) (fun _ t7 _ => n - (intOf t7).toNat)
            case atStart => exact ⟨a + 1, left, ys, by omega, by omega, by go_num, rfl, hleft, HP, HE1, HT, HJi⟩
            case round =>
              obtain ⟨wk, rfl⟩ : ∃ x, x = wr := ⟨_, rfl⟩
              obtain ⟨b, left2, zs, hab, hb, rfl, rfl, hl2, HP2, HE2, HT2, HJ2⟩ := hrel
              clear HP HE1 HT HJi
              by_cases hltb : b < n
              · have y0 := HT2.out.num
                have hand := i64_and_one (left2 : Int)
                have HE3 : Hid (alOut n (n - (a + 1)) (a + 1) (alIn a (n - (b + 1)) (b + 1) (alStep (left2, zs) a b)) = alOut n n 0 (c, al0 n)) := Lib.hid (by
                  rw [← HE2.out, show n - b = (n - (b + 1)) + 1 by omega]; rfl)
                obtain ⟨h2, hh2⟩ : ∃ h, h = left2 / 2 := ⟨_, rfl⟩
                have hdiv : ((left2 : Int) / 2) = (h2 : Int) := by omega
                have hl3 : h2 ≤ Q := by omega
                clear HE2
                rcases Nat.mod_two_eq_zero_or_one left2 with hm | hm
                · have HE4 : Hid (alOut n (n - (a + 1)) (a + 1) (alIn a (n - (b + 1)) (b + 1) (h2, zs)) = alOut n n 0 (c, al0 n)) := Lib.hid (by
                    rw [← HE3.out]; unfold alStep; simp [hm, hh2])
                  have hmi : (left2 : Int) % 2 = 0 := by omega
                  rw [hmi] at hand
                  clear HE3 hm hh2
                  gi_wp2
                  go_roundw
                  case rel => exact ⟨b + 1, h2, zs, by omega, by omega, by go_num, rfl, hl3, HP2, HE4, HT2, HJ2⟩
                  case measure => simp [intOf]; omega
                · have HE4 : Hid (alOut n (n - (a + 1)) (a + 1) (alIn a (n - (b + 1)) (b + 1) (h2, flipL zs a b)) = alOut n n 0 (c, al0 n)) := Lib.hid (by
                    rw [← HE3.out]; unfold alStep; simp [hm, hh2])
                  have hmi : (left2 : Int) % 2 = 1 := by omega
                  rw [hmi] at hand
                  clear HE3 hm hh2
                  obtain ⟨sl, hx, ho, hne⟩ := HT2.out.tour
                  have HLZ := Lib.hid (show zs.length = n by have := HP2.out.2.1; omega)
                  obtain ⟨Y, cy, rfl, -, -, -⟩ := ho.form
                  rw [HLZ.out] at hx ho hne
                  have x0 := hx.1.1
                  have x1 := hx.1.2
                  have HRD := Lib.hid ho.rd
                  have HP3 := Lib.hid (flip_tour HP2.out (a := a) (b := b) (by rw [HLZ.out]; exact hlta) (by rw [HLZ.out]; exact hltb) (by omega))
                  have hsW := ho
                  clear hx ho hne
                  gi_wp2_with fail
                  refine ⟨trivial, rfl, ?_⟩
                  refine (callsIn_wide.2 (flipped_any n (.slice Y n cy) zs a b wk HRD.out (by rw [HLZ.out]; omega) (by rw [HLZ.out]; exact hlta) (by rw [HLZ.out]; exact hltb))).mono ?_
                  rintro e w3 ⟨sl3, rfl, ho3, hb3⟩
                  obtain ⟨Y3, cy3, rfl, -, -, -⟩ := ho3.form
                  have HT3 := Lib.hid (HT2.out.below hb3)
                  have HJ3 := Lib.hid (HJ.out _ _ _ none HJ2.out (grown_below hb3 none) (fun r e => by cases e))
                  obtain ⟨sl9, hx9, -, -⟩ := HT3.out.tour
                  have v0 := hx9.1.1
                  have v1 := hx9.1.2
                  have f0 := hx9.2 0
                  have f1 := hx9.2 1
                  have hbtk : bt < wk.heap.size := World.block_lt_of_cell? _ _ x0
                  have hWk : W.heap.size ≤ wk.heap.size := by omega
                  have HT4 := Lib.hid (HT3.out.put hnbt (ho3.mono hWk) (fun k hk => by have := (ho3.lt k hk).1; omega))
                  have HJ4 := Lib.hid (HJ.out _ _ _ (some bt) (HJ.out _ _ _ (some bt) HJ3.out (setCell_grown w3 ⟨bt, 0, none⟩ (.int .i64 n)) (fun r e => by injection e with e; omega)) (setCell_grown (w3.setCell ⟨bt, 0, none⟩ (.int .i64 n)) ⟨bt, 1, none⟩ (.slice Y3 (flipL zs a b).length cy3)) (fun r e => by injection e with e; omega))
                  clear ho3 hb3 hx9 HT2 HJ2 HT3 HJ3 x0 x1 y0 HRD HP2 hsW
                  gi_wp2
                  go_roundw
                  case rel => exact ⟨b + 1, h2, _, by omega, by omega, by go_num, rfl, hl3, HP3, HE4, HT4, HJ4⟩
                  case measure => simp [intOf]; omega
              · obtain rfl : b = n := by omega
                have y0 := HT2.out.num
                have HE3 : Hid (alOut b (b - (a + 1)) (a + 1) (left2, zs) = alOut b b 0 (c, al0 b)) := Lib.hid (by
                  rw [← HE2.out, Nat.sub_self]; rfl)
                clear HE2
                gi_wp2
                go_roundw
                case rel => exact ⟨a + 1, left2, zs, by omega, by go_num, rfl, hl2, HP2, HE3, HT2, HJ2⟩
                case measure => simp [intOf]; omega
        · as_aux_lemma =>
            obtain rfl : a = n := by omega
            have hys : ys = allL a c := by
              have := congrArg Prod.snd HE.out
              rw [Nat.sub_self] at this
              exact this
            obtain ⟨sl, hx, ho, hne⟩ := HT.out.tour
            have hlz : ys.length = a := by have := HP.out.2.1; omega
            obtain ⟨Y, cy, rfl, -, -, -⟩ := ho.form
            rw [hlz] at hx ho hne
            have x0 := hx.1.1
            have x1 := hx.1.2
            have y0 := HT.out.num
            have hbti : bt < wi.heap.size := World.block_lt_of_cell? _ _ x0
            obtain ⟨fn, tmps, assign, body, hy, hR⟩ := YieldAt.any (m' := 0) (HY.out (List.range c) c (.agg #[.int .i64 a, .slice Y a cy]) wi HJi.out ⟨_, rfl, by rw [← hys]; exact ho.rd⟩ (List.mem_range.2 (by rw [← HQP.out]; exact hlt)))
            clear hx ho hne HE hys HP
            gi_wp2_with (refine ⟨rfl, ?_⟩; refine hR.mono ?_; clear hR; rintro e W1 ⟨rfl, hj1, hk1⟩)
            go_roundw
            case rel => exact ⟨c + 1, by omega, by go_num, Lib.hid (by rw [List.range_succ]; exact hj1), by have := hk1.size; omega, Lib.hid (hk1.cell (p := ⟨nb, 0, none⟩) (Ne.symm hne) y0)⟩
            case measure => simp [intOf]; omega
    · obtain rfl : c = Q := by omega
      gi_wp2
      go_end0
      exact ⟨⟨_, rfl⟩, HJc.out⟩
end Go.Proofs.Ytkhjdijdcjgpfaa

namespace Go.Proofs.Ytkhjdijdcjgpfaa
open Go.RowKit Go.Sort
set_option maxRecDepth 100000
theorem wp_rangeFunc_allB {P : Program} {β : Type} {g : Operand} {ps : Array Tmp} {assign body : Code} {Q : Exit → Act → World → Prop} {a : Act} {w : World} {gf : Nat} {lb : Array Value} (hg : a.eval g = .func (.func gf) #[] lb) (eg : ∀ args w, (callFunc gf args).run P w = .ok (.enter gf args) w)
    {cb : Nat} {En : World → β → Value → Prop} {all : List β} {w0 : World} (hseq : SeqAll P gf lb cb En all w0) (hb0 : Below w0.heap.size w0 w) (hcb : cb < w.heap.size) (hps : ps.size = 1)
    (hEn : ∀ W l o o' x v, W.heap[l]? = some o → o.isCells = false → En W x v → En (W.putObj l o') x v)
    (I : List β → World → Prop) (hI : AbN w.heap.size I) (h0 : I [] w) (a₁ : Value → World → Act) (wa : Value → World → World)
    (hwa : ∀ (v : Value) (W : World), W.grownBy (wa v W) none) (hEn2 : ∀ (W : World) x v, En W x v → En (wa v W) x v)
    (hassign : ∀ (l : Nat) (pre : List β) (x : β) (v : Value) (W : World) (K : Act → World → Prop), En W x v → K (a₁ v W) (wa v W) →
      assign.wpIn (Fence.wide.inRound l) 0 P (Exit.then K (fun _ _ _ => False)) { tmps := (ps.zip #[v]).foldl (fun t (p, v) => t.setIfInBounds p v) a.tmps, defers := [] } W)
    (hbody : ∀ (l : Nat) (pre : List β) (x : β) (v : Value) (W0 W : World), I pre W → En W x v → x ∈ all → w.heap.size ≤ W0.heap.size → (∀ b, W0.heap.size ≤ b → W.heap[b]? = (wa v W0).heap[b]?) → W.heap.size = (wa v W0).heap.size → body.wpIn (Fence.wide.inRound l) 0 P (postA cb I (pre ++ [x]) W) (a₁ v W0) W)
    (hdone : ∀ (D : Nat) (W : World), w.heap.size ≤ D → I all W → W.heap[D]? = some (.deferred (some [])) → Q .normal { a with defers := { target := .collected D, args := #[] } :: a.defers } W) :
    (Code.rangeFunc g ps assign body).wp P Q a w := by
  refine (wpIn_wide (n := 1)).1 (wpIn_rangeFunc ?_)
  intro fn hfn
  rw [show Fence.wide.round = none from rfl]
  obtain ⟨rec, hrec⟩ : ∃ rec : LoopState → Option Code → Loop, rec = fun st pe => { state := st, pending := pe, fn, tmps := a.tmps, params := ps, assign, body, defers := w.heap.size } := ⟨_, rfl⟩
  obtain ⟨W1, hW1⟩ : ∃ W1, (w.alloc (.deferred (some []))).alloc (.loop (rec .ready none)) = W1 := ⟨_, rfl⟩
  have hsz1 : W1.heap.size = w.heap.size + 1 + 1 := by rw [← hW1]; simp
  have hL1 : W1.heap[w.heap.size + 1]? = some (.loop (rec .ready none)) := by
    rw [← hW1]
    have := World.alloc_heap_new (w.alloc (.deferred (some []))) (.loop (rec .ready none))
    rwa [World.size_alloc] at this
  have hK1 : W1.heap[w.heap.size]? = some (.deferred (some [])) := by
    rw [← hW1]; exact (Below.heap_alloc _ _ _ (by simp)).trans (World.alloc_heap_new w _)
  have hI1 : I [] W1 := by rw [← hW1]; exact hI.alloc _ (hI.alloc _ h0)
  have hb1 : Below w0.heap.size w0 W1 := by
    rw [← hW1]; exact hb0.trans ((((Below.refl _ w).alloc (Nat.le_refl _) _).alloc (by simp) _).mono hb0.size)
  refine ⟨w.heap.size + 1, [{ target := .collected w.heap.size, args := #[] }], W1, { target := .fn (.func gf) lb, args := #[.func (.yield (w.heap.size + 1)) #[] #[]] }, W1, gf,
    #[.func (.yield (w.heap.size + 1)) #[] #[]] ++ lb, W1, ?_, ?_, fun _ _ => trivial, ?_, (fun h => by cases h), callsIn_wide.2 ?_⟩
  · rw [← hW1, hrec]; exact run_enterLoop_outer _ _ _ _ _
  · simp only [resolve, hg]
    simp [go_sem]
  · simp [invoke, go_sem, eg]
  · refine (hseq (w.heap.size + 1)
      (fun pre W => I pre W ∧ W.heap[w.heap.size + 1]? = some (.loop (rec .ready none)) ∧ W.heap[w.heap.size]? = some (.deferred (some [])))
      W1 hb1 (fun s A B row hs hg' hr => ?_) ?_ ⟨hI1, hL1, hK1⟩).mono ?_
    · have k : ∀ (i : Nat) (o : Obj), i < W1.heap.size → A.heap[i]? = some o → B.heap[i]? = some o := fun i o hi ho =>
        (hg'.block i (Array.getElem?_eq_some_iff.1 ho).1 (fun e => by have := hr i e.symm; omega)).trans ho
      exact ⟨hI s A B row hs.1 hg' (fun r e => by have := hr r e; omega), k _ _ (by omega) hs.2.1, k _ _ (by omega) hs.2.2⟩
    · rintro pre x v W ⟨hi, hl, hk⟩ hen hmem
      have hlt : w.heap.size + 1 < W.heap.size := (Array.getElem?_eq_some_iff.1 hl).1
      have hy := run_yield (P := P) (args := #[v]) hl (by rw [hrec]; exact hps.symm)
      rw [hrec] at hy
      have hga := hwa v W
      have hla : (wa v W).heap[w.heap.size + 1]? = some (.loop (rec .ready none)) := (hga.block _ hlt (fun e => by cases e)).trans hl
      have hka : (wa v W).heap[w.heap.size]? = some (.deferred (some [])) := (hga.block _ (by omega) (fun e => by cases e)).trans hk
      have hia : I pre (wa v W) := hI _ _ _ none hi hga (fun r e => by cases e)
      have hlta : w.heap.size + 1 < (wa v W).heap.size := (Array.getElem?_eq_some_iff.1 hla).1
      refine ⟨fn, _, assign, body, hy, roundIn_of_wpIn hfn (hassign _ pre x v W _ hen ⟨_, run_beginRound hla (by rw [hrec]), ?_⟩)⟩
      have hl2 : ((wa v W).putObj (w.heap.size + 1) (.loop { rec .ready none with state := .busy })).heap[w.heap.size + 1]? = some (.loop { rec .ready none with state := .busy }) := World.putObj_heap_same hlta
      have hk2 : ((wa v W).putObj (w.heap.size + 1) (.loop { rec .ready none with state := .busy })).heap[w.heap.size]? = some (.deferred (some [])) := (World.putObj_heap_other (by omega)).trans hka
      refine wpIn_mono (hbody _ pre x v W _ (hI.putObj _ hia (by omega)) (hEn _ _ _ _ _ _ hla rfl (hEn2 _ _ _ hen)) hmem (by omega) (fun b hb => World.putObj_heap_other (by omega)) (by simp)) ?_
      rintro e a3 W3 hp
      cases e with
      | normal =>
        obtain ⟨hg3, hi3⟩ := hp
        have hl3 : W3.heap[w.heap.size + 1]? = some (.loop { rec .ready none with state := .busy }) := (hg3.block _ (by simp; omega) (fun e => by injection e; omega)).trans hl2
        have hk3 : W3.heap[w.heap.size]? = some (.deferred (some [])) := (hg3.block _ (by simp; omega) (fun e => by injection e; omega)).trans hk2
        have hr := run_endRound (P := P) none hl3
        refine ⟨_, _, hr, rfl, ⟨hI.putObj _ hi3 (by omega), ?_, (World.putObj_heap_other (by omega)).trans hk3⟩, ?_⟩
        · rw [World.putObj_heap_same (Array.getElem?_eq_some_iff.1 hl3).1, hrec]; rfl
        · have hka' : KpC cb W (wa v W) := ⟨hga.size, fun i o _ ho _ => (hga.block i (Array.getElem?_eq_some_iff.1 ho).1 (fun e => by cases e)).trans ho⟩
          exact ((hka'.trans (KpC.of_put _ hla rfl)).trans (KpC.of_grown hg3)).trans (KpC.of_put _ hl3 rfl)
      | ret => exact hp.elim
      | exit id => exact hp.elim
      | goto t => exact hp.elim
      | panic ch => exact hp.elim
      | outgrown => exact hp.elim
    · rintro e W2 ⟨⟨v, rfl⟩, hi, hl, hk⟩
      exact ⟨none, _, by have := run_endLoop (P := P) hl (by rw [hrec]; simp); rw [hrec] at this; exact this, hdone _ _ (Nat.le_refl _) (hI.putObj _ hi (by omega)) ((World.putObj_heap_other (by omega)).trans hk)⟩
theorem own_of_blocks {W W' : World} {B : Nat} (h : ∀ b, B ≤ b → W.heap[b]? = W'.heap[b]?) {p : Addr} (hp : B ≤ p.block) : W.cell? p = W'.cell? p := World.cell?_of_block (h _ hp)
end Go.Proofs.Ytkhjdijdcjgpfaa

namespace Go.Proofs.Ytkhjdijdcjgpfaa
open Go.RowKit Go.Sort

/-- the i-th of a list goes on a way -/
def wayAt (s : Int) (xs ys : List Int) (i : Nat) : Bool := inB (ys.getD i 0) 0 (s - 1) && (!(containsI (ys.take i) (ys.getD i 0)) && (i == 0 || bitI (xs.getD (ys.getD (i - 1) 0).toNat 0) (ys.getD i 0).toNat))
def wayK (s : Int) (xs ys : List Int) (k : Nat) : Bool := (List.range k).all (wayAt s xs ys)
noncomputable def wayB (s : Int) (xs ys : List Int) : Bool := tourB s xs && wayK s xs ys ys.length
theorem wayK_true {s : Int} {xs ys : List Int} {k : Nat} : wayK s xs ys k = true ↔ ∀ i, i < k → wayAt s xs ys i = true := by simp [wayK]
theorem wayK_no {s : Int} {xs ys : List Int} {k n : Nat} (hk : k < n) (h : wayAt s xs ys k = false) : wayK s xs ys n = false := by
  rcases hq : wayK s xs ys n with _ | _
  · rfl
  · have := wayK_true.1 hq k hk; rw [h] at this; cases this
theorem Rd.take_ {w : World} {A : Option Addr} {n c : Nat} {ys : List Int} (h : Rd w (.slice A n c) ys) (k : Nat) (hk : k ≤ ys.length) : Rd w (.slice A k c) (ys.take k) := by
  obtain ⟨A', c', e, hl, hm, hc⟩ := h
  injection e with e1 e2 e3
  subst e1
  subst e3
  have hl2 : (ys.take k).length = k := by rw [List.length_take]; omega
  refine ⟨A, c, by rw [hl2], by omega, hm, fun h0 => ?_⟩
  obtain ⟨g, off, hA, hg, hx⟩ := hc (by omega)
  refine ⟨g, off, hA, hg, fun j hj => ?_⟩
  rw [hx j (by omega)]
  congr 2
  simp [List.getD_eq_getElem?_getD, List.getElem?_take, show j < k by omega]
set_option maxHeartbeats 2000000 in
theorem implIsWay (s : Int) (sl : Value) (xs : List Int) (yv : Value) (ys : List Int) (w : World) (h : Rd w sl xs) (h2 : Rd w yv ys) :
    Calls Try.prog 30 #[.agg #[.int .i64 s, sl], yv] w fun e w' => e = .returned (.bool (wayB s xs ys)) ∧ Below w.heap.size w w' := by
  have HR := Lib.hid h
  have HW := Lib.hid h2
  obtain ⟨A, c, rfl, -, -, -⟩ := h
  obtain ⟨B, d, rfl, hl2, hm2, hc2⟩ := h2
  unfold maxLen at hm2
  have HC := Lib.hid hc2
  clear hc2
  rcases q0 : tourB s xs with _ | _
  case false =>
    go_enter Try.func30, Try.ntmps30
    go_wp2_with fail
    have b0 := below_alloc1 w (.cells #[.int .i64 s, .slice A xs.length c] 25)
    have x0 := TBox.new w s (.slice A xs.length c) 25
    generalize w.alloc (.cells #[.int .i64 s, .slice A xs.length c] 25) = w0 at *
    have HX0 := Lib.hid x0
    have HB0 := Lib.hid b0
    clear x0 b0
    have y0_0 := HX0.out.1
    have y1_0 := HX0.out.2
    go_wp2_with fail
    refine (implTourOk s _ xs _ (HR.out.below HB0.out)).mono ?_
    rintro e w1 ⟨rfl, hb⟩
    have HX1 := Lib.hid (HX0.out.below hb)
    have HB1 := Lib.hid (Below.then HB0.out hb)
    clear hb HX0 HB0 y0_0 y1_0
    have y0_1 := HX1.out.1
    have y1_1 := HX1.out.2
    rw [q0]
    go_wp2
    go_ret
    exact ⟨ret_bool (by simp [wayB, *]), HB1.out⟩
  have hs := (tourB_true.1 q0).1
  have hsl := (tourB_true.1 q0).2.1
  go_enter Try.func30, Try.ntmps30
  go_wp2_with fail
  have b0 := below_alloc1 w (.cells #[.int .i64 s, .slice A xs.length c] 25)
  have x0 := TBox.new w s (.slice A xs.length c) 25
  generalize w.alloc (.cells #[.int .i64 s, .slice A xs.length c] 25) = w0 at *
  have HX0 := Lib.hid x0
  have HB0 := Lib.hid b0
  clear x0 b0
  have y0_0 := HX0.out.1
  have y1_0 := HX0.out.2
  go_wp2_with fail
  refine (implTourOk s _ xs _ (HR.out.below HB0.out)).mono ?_
  rintro e w1 ⟨rfl, hb⟩
  have HX1 := Lib.hid (HX0.out.below hb)
  have HB1 := Lib.hid (Below.then HB0.out hb)
  clear hb HX0 HB0 y0_0 y1_0
  have y0_1 := HX1.out.1
  have y1_1 := HX1.out.2
  rw [q0]
  generalize hn : ys.length = n at *
  have HN := Lib.hid hn
  clear hn
  go_wp2
  go_loopw [12] (fun i wr => ∃ k : Nat, k ≤ n ∧ i = .int .i64 k ∧ Hid (∀ j, j < k → wayAt s xs ys j = true) ∧ Below w.heap.size w wr ∧ TBox wr w.heap.size s (.slice A xs.length c)) (fun i _ => n - (intOf i).toNat)
  case atStart => exact ⟨0, by omega, rfl, fun _ h => absurd h (by omega), HB1.out, HX1.out⟩
  case round =>
    obtain ⟨k, hk, rfl, HP, hb, hx⟩ := hrel
    have HB2 := Lib.hid hb
    have HX2 := Lib.hid hx
    have y0_0 := hx.1
    have y1_0 := hx.2
    clear hx hb HB1 HX1 y0_1 y1_1
    by_cases hlt : k < n
    · obtain ⟨g, off, rfl, hg, hy⟩ := HC.out (by omega)
      have hyk := (HB2.out.cell (by exact hg)).trans (hy k hlt)
      have hat : wayAt s xs ys k = (inB (ys.getD k 0) 0 (s - 1) && (!(containsI (ys.take k) (ys.getD k 0)) && (k == 0 || bitI (xs.getD (ys.getD (k - 1) 0).toNat 0) (ys.getD k 0).toNat))) := rfl
      have HA := Lib.hid hat
      have ky := fun (y : Int) => quiet_below (w := wr) (fun W hW => has_any s (.slice A xs.length c) y W (by omega))
      have kc := fun (y : Int) => quiet_below (w := wr) (fun W hW => of_same (contains_any _ (ys.take k) y W (((HW.out.below HB2.out).below hW).take_ k (by rw [HN.out]; omega))))
      have k1 := ky (ys.getD k 0)
      have k2 := kc (ys.getD k 0)
      have k3 := fun h1 h2 h3 h4 => quiet_below (w := wr) (fun W hW => beats_any s (.slice A xs.length c) xs (ys.getD (k - 1) 0) (ys.getD k 0) W ((HR.out.below HB2.out).below hW) h1 h2 h3 h4)
      clear ky kc hat
      have FALSE := Lib.hid (fun (hq : wayAt s xs ys k = false) => show wayB s xs ys = false by rw [wayB, wayK_no (by rw [HN.out]; exact hlt) hq, Bool.and_false])
      have NEXT := Lib.hid (fun (hq : wayAt s xs ys k = true) => show ∀ j, j < k + 1 → wayAt s xs ys j = true from fun j hj => by
        by_cases hjk : j < k
        · exact HP.out j hjk
        · obtain rfl : j = k := by omega
          exact hq)
      rcases Nat.eq_zero_or_pos k with rfl | hk0
      · clear k3 hy
        rw [Nat.add_zero] at hyk
        generalize ys.getD 0 0 = y at *
        rcases q1 : inB y 0 (s - 1) with _ | _
        · rw [q1] at k1
          go_wp2_with fail
          have y0_q := cell_regrown y0_0
          have y1_q := cell_regrown y1_0
          clear y0_0 y1_0
          refine wp_region_below (by kernel_rfl) (by kernel_rfl) ?_
          repeat (go_big_quiet_step (first | (with_reducible exact k1 _ _)))
          refine wpQuiet_nil ?_
          intro wq hbq0
          have hbq := Lib.hid hbq0
          clear hbq0
          clear y0_q y1_q
          go_wp2
          go_ret
          exact ⟨ret_bool (FALSE.out (by rw [HA.out, q1]; rfl)).symm, Below.then HB2.out hbq.out⟩
        · rw [q1] at k1
          rcases q2 : containsI (ys.take 0) y with _ | _
          · rw [q2] at k2
            go_wp2_with fail
            have y0_q := cell_regrown y0_0
            have y1_q := cell_regrown y1_0
            clear y0_0 y1_0
            refine wp_region_below (by kernel_rfl) (by kernel_rfl) ?_
            repeat (go_big_quiet_step (first | (with_reducible exact k1 _ _) | (with_reducible exact k2 _ _)))
            refine wpQuiet_nil ?_
            intro wq hbq0
            have hbq := Lib.hid hbq0
            clear hbq0
            clear y0_q y1_q
            go_wp2
            go_roundw
            case rel => exact ⟨0 + 1, by omega, by go_num, NEXT.out (by rw [HA.out, q1, q2]; rfl), Below.then HB2.out hbq.out, HX2.out.below hbq.out⟩
            case measure => simp [intOf]; omega
          · rw [q2] at k2
            go_wp2_with fail
            have y0_q := cell_regrown y0_0
            have y1_q := cell_regrown y1_0
            clear y0_0 y1_0
            refine wp_region_below (by kernel_rfl) (by kernel_rfl) ?_
            repeat (go_big_quiet_step (first | (with_reducible exact k1 _ _) | (with_reducible exact k2 _ _)))
            refine wpQuiet_nil ?_
            intro wq hbq0
            have hbq := Lib.hid hbq0
            clear hbq0
            clear y0_q y1_q
            go_wp2
            go_ret
            exact ⟨ret_bool (FALSE.out (by rw [HA.out, q1, q2]; rfl)).symm, Below.then HB2.out hbq.out⟩
      · obtain ⟨m, rfl⟩ : ∃ m, k = m + 1 := ⟨k - 1, by omega⟩
        have hym := (HB2.out.cell (by exact hg)).trans (hy m (by omega))
        have cm := cell_regrown hym
        have hpm := HP.out m (by omega)
        simp only [Nat.add_sub_cancel] at k3 HA
        clear hy hym
        unfold wayAt at hpm
        rw [Bool.and_eq_true] at hpm
        have hy' := inB_true.1 hpm.1
        clear hpm
        generalize ys.getD (m + 1) 0 = y at *
        generalize ys.getD m 0 = y' at *
        rcases q1 : inB y 0 (s - 1) with _ | _
        · rw [q1] at k1
          go_wp2_with fail
          have y0_q := cell_regrown y0_0
          have y1_q := cell_regrown y1_0
          clear y0_0 y1_0
          refine wp_region_below (by kernel_rfl) (by kernel_rfl) ?_
          repeat (go_big_quiet_step (first | (with_reducible exact k1 _ _)))
          refine wpQuiet_nil ?_
          intro wq hbq0
          have hbq := Lib.hid hbq0
          clear hbq0
          clear y0_q y1_q
          go_wp2
          go_ret
          exact ⟨ret_bool (FALSE.out (by rw [HA.out, q1]; rfl)).symm, Below.then HB2.out hbq.out⟩
        · rw [q1] at k1
          have hy1 := inB_true.1 q1
          have k4 := k3 (by omega) (by omega) (by omega) (by omega)
          clear k3
          rcases q2 : containsI (ys.take (m + 1)) y with _ | _
          · rw [q2] at k2
            rcases q3 : bitI (xs.getD y'.toNat 0) y.toNat with _ | _
            · rw [q3] at k4
              go_wp2_with fail
              have y0_q := cell_regrown y0_0
              have y1_q := cell_regrown y1_0
              clear y0_0 y1_0
              refine wp_region_below (by kernel_rfl) (by kernel_rfl) ?_
              repeat (go_big_quiet_step (first | (with_reducible exact k1 _ _) | (with_reducible exact k2 _ _) | (with_reducible exact k4 _ _)))
              refine wpQuiet_nil ?_
              intro wq hbq0
              have hbq := Lib.hid hbq0
              clear hbq0
              clear y0_q y1_q
              go_wp2
              go_ret
              exact ⟨ret_bool (FALSE.out (by rw [HA.out, q1, q2, q3]; rfl)).symm, Below.then HB2.out hbq.out⟩
            · rw [q3] at k4
              go_wp2_with fail
              have y0_q := cell_regrown y0_0
              have y1_q := cell_regrown y1_0
              clear y0_0 y1_0
              refine wp_region_below (by kernel_rfl) (by kernel_rfl) ?_
              repeat (go_big_quiet_step (first | (with_reducible exact k1 _ _) | (with_reducible exact k2 _ _) | (with_reducible exact k4 _ _)))
              refine wpQuiet_nil ?_
              intro wq hbq0
              have hbq := Lib.hid hbq0
              clear hbq0
              clear y0_q y1_q
              go_wp2
              go_roundw
              case rel => exact ⟨m + 1 + 1, by omega, by go_num, NEXT.out (by rw [HA.out, q1, q2, q3]; simp), Below.then HB2.out hbq.out, HX2.out.below hbq.out⟩
              case measure => simp [intOf]; omega
          · rw [q2] at k2
            go_wp2_with fail
            have y0_q := cell_regrown y0_0
            have y1_q := cell_regrown y1_0
            clear y0_0 y1_0
            refine wp_region_below (by kernel_rfl) (by kernel_rfl) ?_
            repeat (go_big_quiet_step (first | (with_reducible exact k1 _ _) | (with_reducible exact k2 _ _)))
            refine wpQuiet_nil ?_
            intro wq hbq0
            have hbq := Lib.hid hbq0
            clear hbq0
            clear y0_q y1_q
            go_wp2
            go_ret
            exact ⟨ret_bool (FALSE.out (by rw [HA.out, q1, q2]; rfl)).symm, Below.then HB2.out hbq.out⟩
    · obtain rfl : k = n := by omega
      go_wp2
      go_ret
      refine ⟨ret_bool ?_, HB2.out⟩
      rw [wayB, q0, HN.out, wayK_true.2 HP.out]; rfl
theorem wayAt_parts {s : Int} {xs ys : List Int} {i : Nat} (h : wayAt s xs ys i = true) : (0 ≤ ys.getD i 0 ∧ ys.getD i 0 ≤ s - 1) ∧ ys.getD i 0 ∉ ys.take i := by
  unfold wayAt containsI at h
  rw [Bool.and_eq_true, Bool.and_eq_true] at h
  exact ⟨inB_true.1 h.1, by simpa using h.2.1⟩
theorem way_nodup {s : Int} {xs ys : List Int} {k : Nat} (hk : k ≤ ys.length) (h : ∀ j, j < k → wayAt s xs ys j = true) : (ys.take k).Nodup ∧ ∀ y ∈ ys.take k, 0 ≤ y ∧ y ≤ s - 1 := by
  induction k with
  | zero => simp
  | succ k ih =>
    have ih := ih (by omega) (fun j hj => h j (by omega))
    have h1 := wayAt_parts (h k (by omega))
    have e : ys.getD k 0 = ys[k] := by simp [show k < ys.length by omega]
    rw [e] at h1
    rw [List.take_succ_eq_append_getElem (by omega)]
    refine ⟨List.nodup_append.2 ⟨ih.1, by simp, fun a ha b hb => ?_⟩, fun y hy => ?_⟩
    · rw [List.mem_singleton] at hb
      subst hb
      exact fun e => h1.2 (e ▸ ha)
    · rw [List.mem_append, List.mem_singleton] at hy
      rcases hy with hy | rfl
      · exact ih.2 y hy
      · exact h1.1
theorem wayB_len {s : Int} {xs ys : List Int} (h : wayB s xs ys = true) : (ys.length : Int) ≤ s := by
  unfold wayB at h
  rw [Bool.and_eq_true] at h
  have h0 := (tourB_true.1 h.1).1
  have hn := way_nodup (Nat.le_refl _) (wayK_true.1 h.2)
  rw [List.take_length] at hn
  obtain ⟨n, rfl⟩ := Int.eq_ofNat_of_zero_le (by omega : 0 ≤ s)
  have := nodup_le n ys hn.1 (fun y hy => by have := hn.2 y hy; omega)
  omega
theorem wayB_long {s : Int} {xs ys : List Int} (h : s < (ys.length : Int)) : wayB s xs ys = false := by
  rcases hq : wayB s xs ys with _ | _
  · rfl
  · have := wayB_len hq; omega
end Go.Proofs.Ytkhjdijdcjgpfaa

namespace Go.Proofs.Ytkhjdijdcjgpfaa
open Go.RowKit Go.Sort
set_option maxRecDepth 100000

def ordAt (ns : List Int) (i : Nat) : Bool := inB (ns.getD i 0) 0 ((ns.length : Int) - 1) && !(containsI (ns.take i) (ns.getD i 0))
noncomputable def permB (n : Nat) (ns : List Int) : Bool := @decide (PermP n ns) (Classical.propDecidable _)
theorem permB_true {n : Nat} {ns : List Int} : permB n ns = true ↔ PermP n ns := by unfold permB; simp
theorem permB_false {n : Nat} {ns : List Int} : permB n ns = false ↔ ¬ PermP n ns := by rw [← permB_true]; simp
theorem getD_take_ {ns : List Int} {i j : Nat} (h : j < i) : (ns.take i).getD j 0 = ns.getD j 0 := by
  simp [List.getD_eq_getElem?_getD, List.getElem?_take, h]
theorem ord_no {ns : List Int} {k : Nat} (hk : k < ns.length) (h : ordAt ns k = false) : permB ns.length ns = false := permB_false.2 fun hp => by
  have h1 := hp.2.1 _ (getD_mem' hk)
  have h2 : inB (ns.getD k 0) 0 ((ns.length : Int) - 1) = true := inB_true.2 (by omega)
  have h3 : containsI (ns.take k) (ns.getD k 0) = false := by
    unfold containsI
    rw [decide_eq_false_iff_not]
    intro hm
    obtain ⟨j, hj, e⟩ := List.mem_iff_getElem.1 hm
    rw [List.length_take] at hj
    rw [List.getElem_take] at e
    rw [show ns.getD k 0 = ns[k] by simp [hk]] at e
    exact List.pairwise_iff_getElem.1 hp.2.2 j k (by omega) hk (by omega) e
  rw [ordAt, h2, h3] at h
  simp at h
theorem ord_yes {ns : List Int} (h : ∀ k, k < ns.length → ordAt ns k = true) : permB ns.length ns = true := permB_true.2 <| by
  have hA : ∀ k, k < ns.length → (0 ≤ ns.getD k 0 ∧ ns.getD k 0 ≤ (ns.length : Int) - 1) ∧ ns.getD k 0 ∉ ns.take k := fun k hk => by
    have := h k hk
    unfold ordAt at this
    rw [Bool.and_eq_true, inB_true] at this
    refine ⟨this.1, ?_⟩
    have := this.2
    unfold containsI at this
    simpa using this
  refine ⟨rfl, fun x hx => ?_, ?_⟩
  · obtain ⟨k, hk, rfl⟩ := List.mem_iff_getElem.1 hx
    have := (hA k hk).1
    rw [show ns.getD k 0 = ns[k] by simp [hk]] at this
    omega
  · rw [List.Nodup, List.pairwise_iff_getElem]
    intro i j hi hj hij e
    refine (hA j hj).2 ?_
    rw [show ns.getD j 0 = ns[j] by simp [hj], ← e]
    rw [List.mem_iff_getElem]
    exact ⟨i, by rw [List.length_take]; omega, by rw [List.getElem_take]⟩
set_option maxHeartbeats 2000000 in
theorem isOrder_any (nv : Value) (ns : List Int) (w : World) (h : Rd w nv ns) (hl : ns.length ≤ 1099511627776) :
    Calls Try.prog 94 #[nv] w fun e w' => e = .returned (.bool (permB ns.length ns)) ∧ Below w.heap.size w w' := by
  have HR := Lib.hid h
  obtain ⟨B, d, rfl, hl2, hm2, hc2⟩ := h
  unfold maxLen at hm2
  have HC := Lib.hid hc2
  clear hc2
  have HNO := Lib.hid (fun (k : Nat) (hk : k < ns.length) (hq : ordAt ns k = false) => ord_no hk hq)
  have HYES := Lib.hid (fun (hq : ∀ k, k < ns.length → ordAt ns k = true) => ord_yes hq)
  have HAT : Hid (∀ k, ordAt ns k = (inB (ns.getD k 0) 0 ((ns.length : Int) - 1) && !(containsI (ns.take k) (ns.getD k 0)))) := fun _ => rfl
  generalize hn : ns.length = n at *
  have HN := Lib.hid hn
  clear hn
  go_enter Try.func94, Try.ntmps94
  go_wp2
  go_loopw [7] (fun i wr => ∃ k : Nat, k ≤ n ∧ i = .int .i64 k ∧ Hid (∀ j, j < k → ordAt ns j = true) ∧ Below w.heap.size w wr) (fun i _ => n - (intOf i).toNat)
  case atStart => exact ⟨0, by omega, rfl, fun _ h => absurd h (by omega), Below.refl _ _⟩
  case round =>
    obtain ⟨k, hk, rfl, HP, hb⟩ := hrel
    have HB := Lib.hid hb
    clear hb
    by_cases hlt : k < n
    · obtain ⟨g, off, rfl, hg, hy⟩ := HC.out (by omega)
      have hyk := (HB.out.cell (p := ⟨g, off + k, none⟩) hg).trans (hy k hlt)
      have HA := Lib.hid (HAT.out k)
      have hT := Lib.hid ((HR.out.below HB.out).take_ k (by rw [HN.out]; omega))
      have HNK := Lib.hid (HNO.out k hlt)
      clear hy
      generalize hz : ns.getD k 0 = y at *
      clear hz
      rcases q1 : inB y 0 ((n : Int) - 1) with _ | _
      · go_wp2_with fail
        refine (within_any _ _ _ _).mono ?_
        rintro e wz ⟨rfl, rfl⟩
        rw [q1]
        go_wp2
        go_ret
        exact ⟨ret_bool (HNK.out (by rw [HA.out, q1]; rfl)).symm, HB.out⟩
      · rcases q2 : containsI (ns.take k) y with _ | _
        · go_wp2_with fail
          refine (within_any _ _ _ _).mono ?_
          rintro e wz ⟨rfl, rfl⟩
          rw [q1]
          go_wp2_with fail
          refine (contains_any _ (ns.take k) y _ hT.out).mono ?_
          rintro e wz ⟨rfl, rfl⟩
          rw [q2]
          go_wp2
          go_roundw
          case rel => exact ⟨k + 1, by omega, by go_num, fun j hj => by
            by_cases hjk : j < k
            · exact HP.out j hjk
            · obtain rfl : j = k := by omega
              rw [HA.out, q1, q2]; rfl, HB.out⟩
          case measure => simp [intOf]; omega
        · go_wp2_with fail
          refine (within_any _ _ _ _).mono ?_
          rintro e wz ⟨rfl, rfl⟩
          rw [q1]
          go_wp2_with fail
          refine (contains_any _ (ns.take k) y _ hT.out).mono ?_
          rintro e wz ⟨rfl, rfl⟩
          rw [q2]
          go_wp2
          go_ret
          exact ⟨ret_bool (HNK.out (by rw [HA.out, q1, q2]; rfl)).symm, HB.out⟩
    · obtain rfl : k = n := by omega
      go_wp2
      go_ret
      exact ⟨ret_bool (HYES.out HP.out).symm, HB.out⟩
end Go.Proofs.Ytkhjdijdcjgpfaa

namespace Go.Proofs.Ytkhjdijdcjgpfaa
open Go.RowKit Go.Sort
set_option maxRecDepth 100000
attribute [local go_sem] Oper.semAt_some
/-- how many orders of this list leave the tour as it is -/
noncomputable def cntL (xs : List Int) (l : List (List Nat)) : Nat := (l.filter fun ns => decide (xs = rnL xs (nI ns))).length
theorem cnt_snoc (xs : List Int) (l : List (List Nat)) (ns : List Nat) : cntL xs (l ++ [ns]) = cntL xs l + (decide (xs = rnL xs (nI ns))).toNat := by
  unfold cntL
  rw [List.filter_append, List.length_append]
  congr 1
  rw [List.filter_cons]
  cases decide (xs = rnL xs (nI ns)) <;> simp
noncomputable def symB6 (s : Int) (xs : List Int) : Bool := tourB s xs && decide (s ≤ 6)
noncomputable def symN (s : Int) (xs : List Int) : Int := if symB6 s xs = true then (cntL xs (ordL xs.length) : Int) else 0
theorem cnt_le (xs : List Int) (l : List (List Nat)) : cntL xs l ≤ l.length := List.length_filter_le _ _
theorem wrap_wrap1 (a : Int) : wrap64 (wrap64 a + 1) = wrap64 (a + 1) := by unfold wrap64; omega
/-- what lies in the boxes between two rounds -/
def SymI (w0 : World) (xs : List Int) (cb tb : Nat) (n : Nat) (sl : Value) (done : List (List Nat)) (W : World) : Prop :=
  W.cell? ⟨cb, 0, none⟩ = some (.int .i64 (wrap64 (cntL xs done : Nat))) ∧ W.frozen? ⟨cb, 0, none⟩ = false ∧ TBox W tb n sl ∧ Rd W sl xs ∧ Below w0.heap.size w0 W
theorem SymI.abn {w0 : World} {xs : List Int} {cb tb n B : Nat} {sl : Value} (h0 : Rd w0 sl xs) (hc : cb < B) (ht : tb < B) (hw : w0.heap.size ≤ B) : AbN B (SymI w0 xs cb tb n sl) := by
  intro s W W' row h hg hr
  obtain ⟨h1, h2, h3, h4, h5⟩ := h
  have hb : Below w0.heap.size w0 W' := h5.grown hg h5.size (fun k e => Nat.le_trans hw (hr k e))
  have hcW := World.block_lt_of_cell? W _ h1
  refine ⟨(World.cell?_of_block (hg.block cb hcW (fun e => by have := hr _ e.symm; omega))).trans h1, (frozen_of_block (hg.block cb hcW (fun e => by have := hr _ e.symm; omega))).trans h2, h3.kept hg (fun e => by have := hr _ e.symm; omega), h0.below hb, hb⟩
end Go.Proofs.Ytkhjdijdcjgpfaa

namespace Go.Proofs.Ytkhjdijdcjgpfaa
open Go.RowKit Go.Sort
set_option maxRecDepth 100000
attribute [local go_sem] Oper.semAt_some
/-- what lies in the boxes between two rounds -/
def CkI (w0 : World) (n k kb cb : Nat) (done : List Nat) (W : World) : Prop :=
  W.cell? ⟨cb, 0, none⟩ = some (.int .i64 (wrap64 (ckN n k done : Nat))) ∧ W.frozen? ⟨cb, 0, none⟩ = false ∧ W.cell? ⟨kb, 0, none⟩ = some (.int .i64 k) ∧ Below w0.heap.size w0 W
theorem CkI.abn {w0 : World} {n k kb cb B : Nat} (hc : cb < B) (hk : kb < B) (hw : w0.heap.size ≤ B) : AbN B (CkI w0 n k kb cb) := by
  intro s W W' row h hg hr
  obtain ⟨h1, h2, h3, h5⟩ := h
  have hcW := World.block_lt_of_cell? W _ h1
  have hkW := World.block_lt_of_cell? W _ h3
  exact ⟨(World.cell?_of_block (hg.block cb hcW (fun e => by have := hr _ e.symm; omega))).trans h1, (frozen_of_block (hg.block cb hcW (fun e => by have := hr _ e.symm; omega))).trans h2, (World.cell?_of_block (hg.block kb hkW (fun e => by have := hr _ e.symm; omega))).trans h3, h5.grown hg h5.size (fun k e => Nat.le_trans hw (hr k e))⟩
set_option maxHeartbeats 4000000 in
theorem cCountKings (n k : Nat) (N K : Int) (hN : N = n) (hK : K = k) (w : World) (h1 : 1 ≤ n) (h5 : n ≤ 5) (hk : k ≤ n) :
    Calls Try.prog 22 #[.int .i64 N, .int .i64 K] w fun e w' => e = .returned (.int .i64 (ckN n k (List.range (2 ^ (n * (n - 1) / 2))) : Nat)) ∧ Below w.heap.size w w' := by
  subst hN hK
  refine calls_of_wpM Try.func22 rfl ?_
  simp only [Try.ntmps22, List.size_toArray, List.length_cons, List.length_nil, Nat.reduceAdd, Nat.reduceSub, Array.replicate_succ, Array.replicate_zero, List.push_toArray, List.append_toArray, List.nil_append, List.cons_append]
  have i1 : inB (n : Int) 1 5 = true := inB_true.2 ⟨by omega, by omega⟩
  have i2 : inB (k : Int) 0 n = true := inB_true.2 ⟨by omega, by omega⟩
  have HB1 := Lib.hid (below_alloc1 w (.cells #[.int .i64 k] 3))
  have C1 := Lib.hid (cell_new1 w (.int .i64 k) 3)
  go_wp2_with fail
  generalize w.alloc (.cells #[.int .i64 k] 3) = w1 at *
  refine (within_any _ _ _ _).mono ?_
  rintro e wz ⟨rfl, rfl⟩
  rw [i1]
  have c1 := C1.out
  go_wp2_with fail
  refine (within_any _ _ _ _).mono ?_
  rintro e wz ⟨rfl, rfl⟩
  rw [i2]
  have bb := below_alloc1 w1 (.cells #[.int .i64 0] 3)
  have CA := cell_new1 w1 (.int .i64 0) 3
  have FA : (w1.alloc (.cells #[.int .i64 0] 3)).frozen? ⟨w1.heap.size, 0, none⟩ = false := by simp
  have SA : w1.heap.size < (w1.alloc (.cells #[.int .i64 0] 3)).heap.size := by simp
  have HBA := Lib.hid (Below.then HB1.out bb)
  have hkb := World.block_lt_of_cell? _ _ C1.out
  have CK := Lib.hid ((bb.cell hkb).trans C1.out)
  go_wp2_with fail
  generalize w1.alloc (.cells #[.int .i64 0] 3) = w2 at *
  have HCA := Lib.hid CA
  have HFA := Lib.hid FA
  clear bb CA FA c1 C1
  refine (allTours_any n w2).mono ?_
  rintro e w4 ⟨rfl, hw4⟩
  have HW4 := Lib.hid hw4
  clear hw4
  go_wp2_with fail
  have h4s : w4.heap.size = w2.heap.size + 1 := by rw [HW4.out]; simp
  have b24 : Below w2.heap.size w2 w4 := by rw [HW4.out]; exact below_alloc1 _ _
  have HB4 := Lib.hid (Below.then HBA.out b24)
  have hc4 := (b24.cell (p := ⟨w1.heap.size, 0, none⟩) SA).trans HCA.out
  have hf4 := (b24.frozen (p := ⟨w1.heap.size, 0, none⟩) SA).trans HFA.out
  have hk4 := (b24.cell (p := ⟨w.heap.size, 0, none⟩) (by simp only; omega)).trans CK.out
  have SEQ := allTours_all (n := n) h1 h5 w2.heap.size w1.heap.size w4 (by omega) (by omega) (by omega) (by rw [HW4.out]; exact cell_new1 _ _ _)
  have hI0 : CkI w n k w.heap.size w1.heap.size [] w4 := ⟨by rw [hc4]; simp [ckN, wrap64], hf4, hk4, HB4.out⟩
  have hsz12 : w.heap.size < w1.heap.size := hkb
  refine wp_rangeFunc_allB (gf := 122) (lb := #[.pointer (some ⟨w2.heap.size, 0, none⟩)]) rfl (fun _ _ => by kernel_rfl) SEQ (Below.refl _ _) (by omega) rfl (fun W l o o' x v h1 h2 h3 => by
      obtain ⟨sl, rfl, hr⟩ := h3; exact ⟨sl, rfl, rd_put h1 h2 hr⟩)
    (CkI w n k w.heap.size w1.heap.size) (CkI.abn (by omega) (by omega) (by omega)) hI0
    (fun v W => { tmps := #[.int .i64 n, .int .i64 k, undef, .pointer (some ⟨w.heap.size, 0, none⟩), .int .i64 0, .pointer (some ⟨w1.heap.size, 0, none⟩), .pointer (some ⟨W.heap.size, 0, none⟩), .int .i64 n, .bool true, .bool false, .bool false, .int .i64 k, .int .i64 n, .bool true, .bool false, .bool false, .int .i64 n, .func (.func 122) #[] #[.pointer (some ⟨w2.heap.size, 0, none⟩)], v, undef, undef, undef, undef, undef, undef, undef, undef, undef], defers := [] }) (fun v W => W.alloc (.cells (Value.cells v) 25)) (fun v W => World.grownBy_alloc W _ none) (fun W x v h3 => by
      obtain ⟨sl, rfl, hr⟩ := h3; exact ⟨sl, rfl, hr.alloc _⟩) ?assign ?body ?done
  case assign =>
    intro l pre x v W K hen hK
    obtain ⟨sl, rfl, hr⟩ := hen
    obtain ⟨Z, cz, rfl, -, -, -⟩ := hr
    gi_wp2
    exact hK
  case body =>
    rintro l pre x v W0 W ⟨hc, hf, hkc, hb⟩ ⟨sl, rfl, hr⟩ hmem hsz hnew hsz2
    have hp := all_tour h1 (by omega) x
    have HP := Lib.hid hp
    have hln := tour_len hp
    obtain ⟨Z, cz, rfl, -, -, -⟩ := id hr
    have HRD := Lib.hid hr
    rw [hln] at HRD hnew hsz2 ⊢
    have HX : Hid (TBox W W0.heap.size n (.slice Z n cz)) := by
      have := TBox.new W0 n (.slice Z n cz) 25
      exact Lib.hid ⟨(own_of_blocks hnew (p := ⟨W0.heap.size, 0, none⟩) (Nat.le_refl _)).trans this.1, (own_of_blocks hnew (p := ⟨W0.heap.size, 1, none⟩) (Nat.le_refl _)).trans this.2⟩
    have HSS := Lib.hid hb
    have HC0 := Lib.hid hc
    have HF0 := Lib.hid hf
    have HK0 := Lib.hid hkc
    have HWS := Lib.hid hsz2
    clear hr hp hln hnew hsz2 hc hf hkc hb hk4 hc4 hf4
    have y0 := HX.out.1
    have y1 := HX.out.2
    have hkg : kgS (allL n x) n < 256 := n256 HP.out kg_lt
    have hcW := World.block_lt_of_cell? W _ HC0.out
    have hkW := World.block_lt_of_cell? W _ HK0.out
    have HST := Lib.hid (ck_snoc n k pre x)
    have hle := ck_le n k (pre ++ [x])
    have k1 := quiet_below (w := W) (fun W' hW => kings_any n (.slice Z n cz) (allL n x) W' (HRD.out.below hW) HP.out)
    generalize kgS (allL n x) n = kg at *
    have k2 := quiet_below (w := W) (fun W' hW => of_same (ones_any kg W' hkg))
    have z0 := cell_regrown y0
    have z1 := cell_regrown y1
    have z2 := cell_regrown HK0.out
    clear y0 y1
    have hdB : ((popN 8 kg : Int) == (k : Int)) = (popN 8 kg == k) := by rw [Bool.eq_iff_iff, beq_iff_eq, beq_iff_eq]; omega
    have hdec : (popN 8 kg == k) = decide (popN 8 kg = k) := by rw [Bool.eq_iff_iff, beq_iff_eq, decide_eq_true_eq]
    generalize popN 8 kg = pk at *
    gi_wp2_with fail
    refine round_region_below (noDefer_spec (by kernel_rfl)) (fun ⟨_, _, h⟩ => h) (by kernel_rfl) (by kernel_rfl) ?_
    repeat (go_big_quiet_step (first | (with_reducible exact k1 _ _) | (with_reducible exact k2 _ _)))
    refine wpQuiet_nil ?_
    intro wq hbq
    have BQ := Lib.hid hbq
    have hcq := (hbq.cell (p := ⟨w1.heap.size, 0, none⟩) hcW).trans HC0.out
    have hfq := (hbq.frozen (p := ⟨w1.heap.size, 0, none⟩) hcW).trans HF0.out
    have HKQ := Lib.hid ((hbq.cell (p := ⟨w.heap.size, 0, none⟩) hkW).trans HK0.out)
    have BW := Lib.hid (Below.then HSS.out hbq)
    clear k1 k2 z0 z1 z2 hbq
    rcases qd : decide (pk = k) with _ | _
    · rw [qd] at HST
      gi_wp2
      exact ⟨grown_below BQ.out _, by rw [hcq, HST.out]; simp, hfq, HKQ.out, BW.out⟩
    · rw [qd] at HST
      have HCV := Lib.hid hcq
      generalize hcv : wrap64 ((ckN n k pre : Nat) : Int) = cv at *
      have HV := Lib.hid hcv
      have hbw : w.heap.size ≤ w1.heap.size := by omega
      clear hcv
      gi_wp2
      have hg := setCell_grown wq ⟨w1.heap.size, 0, none⟩ (.int .i64 (wrap64 (cv + 1)))
      refine ⟨(grown_below BQ.out (some w1.heap.size)).trans hg, ?_, by rw [World.frozen?_setCell]; exact hfq, (World.cell?_setCell_other _ _ _ _ (by first | (simp; done) | (simp; omega))).trans HKQ.out, BW.out.setCell (p := ⟨w1.heap.size, 0, none⟩) hbw _⟩
      rw [World.cell?_setCell_same _ _ _ HCV.out, HST.out, ← HV.out, wrap_wrap1]; simp
  case done =>
    rintro D W hD ⟨hc, hf, hkc, hb⟩ hK
    have HB := Lib.hid hb
    have HKD := Lib.hid hK
    have hM : n * (n - 1) ≤ 20 := by
      have : n * (n - 1) ≤ 5 * 4 := Nat.mul_le_mul h5 (by omega)
      omega
    have hQ : 2 ^ (n * (n - 1) / 2) ≤ 1024 := Nat.pow_le_pow_right (n := 2) (j := 10) (by decide) (by omega)
    have HQ : Hid (wrap64 ((ckN n k (List.range (2 ^ (n * (n - 1) / 2))) : Nat) : Int) = (ckN n k (List.range (2 ^ (n * (n - 1) / 2))) : Nat)) := by
      have h1 := ck_le n k (List.range (2 ^ (n * (n - 1) / 2)))
      rw [List.length_range] at h1
      exact IntWalk.wrap64_in _ (by omega)
    have HC := Lib.hid hc
    clear hb hK hkc hM hQ
    rw [HQ.out] at hc
    go_wp2
    have HBF := Lib.hid (HB.out.trans (belowK_b (w := w) (Nat.le_refl _) W D _ (.deferred none) (by omega) HKD.out rfl rfl))
    refine ⟨by simp, .inl ⟨_, _, rfl, run_takeDeferred HKD.out, ?_⟩⟩
    exact ⟨_, results_tmp rfl _ _ _, rfl, HBF.out⟩
end Go.Proofs.Ytkhjdijdcjgpfaa

namespace Go.Proofs.Ytkhjdijdcjgpfaa
open Go.RowKit Go.Sort
set_option maxRecDepth 100000
section
variable {md : Region.Mode} {ops : Array Oper}
def lxPairs (md : Region.Mode) (ops : Array Oper) (k : Nat) (o : Oper) (rest : List Oper) : Bool :=
  rest.all fun oj => oj.after.toList.any (fun e => Region.binds md e && e.on == k) || o.apart ops oj
def lxOk (md : Region.Mode) (ops : Array Oper) : List Oper → Nat → Bool
  | [], _ => true
  | o :: rest, k => (o.after.toList.all fun e => !Region.binds md e || decide (e.on < k)) && lxPairs md ops k o rest && lxOk md ops rest (k + 1)
theorem lexFrom_of : ∀ (l : List Oper) (k : Nat) (listed : Array Bool), (∀ j, l[j]? = ops[k + j]?) → listed.size = ops.size → (∀ j, j < k → j < ops.size → listed.getD j false = true) →
    (∀ j, k ≤ j → j < ops.size → listed.getD j true = false) → lxOk md ops l k = true → Region.lexFrom md ops l.length k listed = true := by
  intro l
  induction l with
  | nil =>
    intro k listed hl hs hlt _ _
    have hk : ops.size ≤ k := by
      have := (hl 0).symm
      simp only [List.getElem?_nil, Nat.add_zero] at this
      exact Array.getElem?_eq_none_iff.1 this
    show (Region.ready md ops listed).isEmpty = true
    rw [List.isEmpty_iff, List.eq_nil_iff_forall_not_mem]
    intro i hi
    obtain ⟨h1, o, ho, -⟩ := mem_ready.1 hi
    have hi2 : i < ops.size := (Array.getElem?_eq_some_iff.1 ho).1
    have h2 := hlt i (by omega) hi2
    have hi3 : i < listed.size := by omega
    simp [hi3] at h1 h2
    rw [h1] at h2
    cases h2
  | cons o rest ih =>
    intro k listed hl hs hlt hge hB
    simp only [lxOk, Bool.and_eq_true] at hB
    obtain ⟨⟨hA, hP⟩, hR⟩ := hB
    have h0 : ops[k]? = some o := by simpa using (hl 0).symm
    have hk : k < ops.size := (Array.getElem?_eq_some_iff.1 h0).1
    show ((Region.ready md ops listed).contains k && Region.free md ops listed k && Region.lexFrom md ops rest.length (k + 1) (listed.setIfInBounds k true)) = true
    rw [Bool.and_eq_true, Bool.and_eq_true]
    refine ⟨⟨?_, ?_⟩, ?_⟩
    · rw [List.contains_iff_mem]
      refine mem_ready.2 ⟨hge k (Nat.le_refl _) hk, o, h0, fun e he hb => ?_⟩
      have h1 := List.all_eq_true.1 hA e (by simpa using he)
      rw [hb] at h1
      simp only [Bool.not_true, Bool.false_or, decide_eq_true_eq] at h1
      exact hlt e.on h1 (by omega)
    · unfold Region.free
      rw [h0]
      simp only [List.all_eq_true, List.mem_range]
      intro j hj
      rw [Bool.or_eq_true, Bool.or_eq_true]
      rcases Nat.lt_trichotomy j k with h | h | h
      · left; right
        have h2 := hlt j h hj
        have hj3 : j < listed.size := by omega
        simp [hj3] at h2 ⊢
        exact h2
      · left; left; simp [h]
      · right
        have hj2 : ops[j]? = some ops[j] := by simp [hj]
        rw [hj2]
        have h3 : rest[j - k - 1]? = some ops[j] := by
          have := hl (j - k)
          rw [show k + (j - k) = j by omega, hj2, show j - k = (j - k - 1) + 1 by omega] at this
          simpa using this
        have h4 := List.all_eq_true.1 hP _ (List.mem_of_getElem? h3)
        rw [Bool.or_eq_true] at h4 ⊢
        rcases h4 with h4 | h4
        · left
          obtain ⟨e, he, hb⟩ := List.any_eq_true.1 h4
          exact Array.any_eq_true'.2 ⟨e, by simpa using he, hb⟩
        · exact .inr h4
    · refine ih (k + 1) _ (fun j => by have := hl (j + 1); simpa [Nat.add_assoc, Nat.add_comm 1 j] using this) (by simp [hs]) (fun j hj hj2 => ?_) (fun j hj hj2 => ?_) hR
      · rcases Nat.lt_or_ge j k with h | h
        · have h2 := hlt j h hj2
          have hj3 : j < listed.size := by omega
          simp [hj3] at h2 ⊢
          rw [Array.getElem_setIfInBounds]
          split
          · rfl
          · exact h2
        · obtain rfl : j = k := by omega
          have hj3 : j < listed.size := by omega
          simp [hj3]
      · have h2 := hge j (by omega) hj2
        have hj3 : j < listed.size := by omega
        simp [hj3] at h2 ⊢
        rw [Array.getElem_setIfInBounds, if_neg (by omega)]
        exact h2
theorem lexB_cheap {l : List Oper} (hs : Region.noSelect l.toArray = true) (h : lxOk md l.toArray l 0 = true) : Region.lexB md l.toArray = true := by
  unfold Region.lexB
  rw [hs, Bool.true_and]
  have := lexFrom_of (md := md) (ops := l.toArray) l 0 (Array.replicate l.toArray.size false) (by simp) (by simp) (fun j hj => by omega) (fun j _ hj => by simp at hj; simp [hj]) h
  simpa using this
end
end Go.Proofs.Ytkhjdijdcjgpfaa

namespace Go.Proofs.Ytkhjdijdcjgpfaa
open Go.RowKit Go.Sort

end Go.Proofs.Ytkhjdijdcjgpfaa

