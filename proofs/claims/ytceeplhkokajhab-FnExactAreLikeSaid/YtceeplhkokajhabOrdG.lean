/- impl.orders: all orders, in one list that changes; the rounds may keep blocks of their own. -/
import Derived.Test.YtceeplhkokajhabOrdW
import Derived.Test.YtceeplhkokajhabRngG
namespace Go.Proofs.Ytceeplhkokajhab
open Go.RowKit Go.Sort
set_option maxRecDepth 100000
attribute [local go_sem] Oper.semAt_some
theorem wp_append1a {ops : Array Oper} {rest : List Oper} {o : Oper} {a : Act} {Q : Exit → Act → World → Prop} (w : World) (hgd : o.guard = none) (s x : Operand)
    (ho : o.op = .call { callee := .builtin .append, args := #[s, x], argTypes := #[22, 22] })
    (base : Nat) (v : Value) (xs : List Int) (y : Int) (hs : a.eval s = v) (hown : Own w base v xs) (hx : a.eval x = .slice (some ⟨w.heap.size, 0, none⟩) 1 1)
    (hlen : xs.length ≤ 1099511627776) (hbase : base ≤ w.heap.size)
    (h : ∀ v' w', Own w' base v' (xs ++ [y]) → w.grownBy w' v.ownBlock → (∀ r, v'.ownBlock = some r → v.ownBlock = some r ∨ w.heap.size ≤ r) → wpList Try.prog ops Q rest (a.put o.dst v') w') :
    wpList Try.prog ops Q (o :: rest) a (w.alloc (.cells #[.int .i64 y] 3)) := by
  obtain ⟨i0, hi, hz0, hz1, hz2⟩ := info_parts i64_info
  have hown' : (w.alloc (.cells #[.int .i64 y] 3)).ownsRow base 3 1 v xs.length (xs.map (Value.int .i64)) := World.ownsRow.alloc hown _
  have hnews : ∀ j u, [Value.int .i64 y][j]? = some u → (w.alloc (.cells #[.int .i64 y] 3)).cell? ((⟨w.heap.size, 0, none⟩ : Addr).add j) = some u := by
    intro j u hj
    match j, hj with
    | 0, hj => simp at hj; subst hj; simp [Addr.add]
  have h1 : ∀ u ∈ [Value.int .i64 y], u.oneCell' = true := by intro u hu; simp at hu; subst hu; rfl
  obtain ⟨v', w', hr, h2, h3, -, h5⟩ := run_append_own_at (P := Try.prog) (w.alloc (.cells #[.int .i64 y] 3)) base 22 o.type 3 i0 (.int .i64 0) 1 8 Try.underlying22 hi hz0 hz1 hz2 rfl (by decide) v xs.length (xs.map (Value.int .i64)) hown' ⟨w.heap.size, 0, none⟩ 1 1 [.int .i64 y] rfl hnews h1 (by unfold maxLen; omega) (by omega) (by simp; omega)
  refine wpList_plain hgd fun K hK => ?_
  unfold Oper.wp execOp
  simp only [ho, resolve, invoke, builtin, Sem.run_bind, Sem.run_pure, Result.andThen_ok, List.map_toArray, List.map_cons, List.map_nil, hs, hx, hr]
  refine hK _ _ (h v' w' (by unfold Own; rw [List.length_append, List.map_append]; exact h2) (grown_of_alloc h3) (fun r hr => ?_))
  rcases h5 with e | e
  · exact .inl (by rw [← e]; exact hr)
  · rw [e] at hr; injection hr with hr; simp at hr; exact .inr (by omega)
def OrdQ (W : World) (base ob : Nat) (Pt : Nat → Prop) (pre : List Nat) : Prop := ∃ v, W.cell? ⟨ob, 0, none⟩ = some v ∧ Own W base v (nI pre) ∧ (∀ r, v.ownBlock = some r → ¬ Pt r) ∧ ¬ Pt ob ∧ ∀ r, Pt r → r < W.heap.size
def ExtQ (J : List (List Nat) → (Nat → Prop) → World → Prop) (done : List (List Nat)) (base ob lb yb eb gl n l B0 : Nat) (pre : List Nat) (e : Ending) (w' : World) : Prop :=
  e = .returned (.bool true) ∧ ∃ Pt, J done Pt w' ∧ OrdT w' ob lb yb eb gl n l ∧ OrdQ w' base ob Pt pre ∧ base ≤ w'.heap.size ∧ ∀ r, Pt r → B0 ≤ r
set_option maxHeartbeats 2000000 in
theorem extend_zeroP {n : Nat} (base ob lb yb eb gl l cb B0 : Nat) (hB0 : B0 ≤ base) (D : OrdD cb base ob lb yb eb gl) (J : List (List Nat) → (Nat → Prop) → World → Prop)
    (hY : ∀ done Pt x v W1, J done Pt W1 → (∀ r, Pt r → r < W1.heap.size ∧ B0 ≤ r) → Rd W1 v (nI x) → x ∈ ordL n → YieldAt Fence.wide 0 Try.prog l #[v] W1 fun e W' => e = .returned (.bool true) ∧ ∃ Pt', J (done ++ [x]) Pt' W' ∧ (∀ r, Pt' r → r < W'.heap.size ∧ (Pt r ∨ W1.heap.size ≤ r)) ∧ KpC cb W1 W')
    (pre : List Nat) (done : List (List Nat)) (W : World) (hp : pre ∈ ordL n) (hW : base ≤ W.heap.size) (Pt : Nat → Prop) (hpt : ∀ r, Pt r → B0 ≤ r) (hj : J done Pt W) (T : OrdT W ob lb yb eb gl n l) (O : OrdQ W base ob Pt pre) :
    Calls Try.prog 73 #[.pointer (some ⟨ob, 0, none⟩), .pointer (some ⟨lb, 0, none⟩), .pointer (some ⟨yb, 0, none⟩), .pointer (some ⟨eb, 0, none⟩)] W (ExtQ J (done ++ [pre]) base ob lb yb eb gl n l B0 pre) := by
  obtain ⟨v, hv, ho, hnv, hno, hps⟩ := O
  have hl : pre.length = n := (mem_ordL.1 hp).1
  obtain ⟨fn, tmps, assign, body, hy, hR⟩ := YieldAt.any (m' := 0) (hY done Pt pre v W hj (fun r h => ⟨hps r h, hpt r h⟩) ho.rd hp)
  obtain ⟨A, c, rfl, -, -, -⟩ := ho.form
  rw [nI_len, hl] at hv hy ho hnv
  have HT := Lib.hid T
  have HO := Lib.hid ho
  have HNV := Lib.hid hnv
  have HNO := Lib.hid hno
  have HPT := Lib.hid hpt
  have HV := Lib.hid hv
  have l1 := T.lst
  have l2 := T.yld
  clear T ho hl hnv hno hps hpt
  refine callsIn_wide.1 (callsIn_of_wp (n := 0) Try.func73 rfl trivial ?_ rfl)
  simp only [Try.ntmps73, List.size_toArray, List.length_cons, List.length_nil, Nat.reduceAdd, Nat.reduceSub, Array.replicate_succ, Array.replicate_zero, List.push_toArray, List.append_toArray, List.nil_append, List.cons_append]
  gi_wp2_with (refine ⟨rfl, ?_⟩; refine hR.mono ?_; clear hR; rintro e W1 ⟨rfl, Pt1, hj1, hp1, hk1⟩)

  go_ret
  refine ⟨rfl, Pt1, hj1, HT.out.kpc D hk1 HV.out, ⟨_, hk1.cell (Ne.symm D.hcb.1) HV.out, own_kpc HO.out hk1 D.hbs.1, fun r hr hq => ?_, fun hq => ?_, fun r hr => (hp1 r hr).1⟩, Nat.le_trans hW hk1.size, fun r hr => ?_⟩
  · rcases (hp1 r hq).2 with h | h
    · exact HNV.out r hr h
    · have := (HO.out.lt r hr).2; omega
  · rcases (hp1 ob hq).2 with h | h
    · exact HNO.out h
    · have := D.hbs.2.1; omega
  · rcases (hp1 r hr).2 with h | h
    · exact HPT.out r h
    · omega
set_option maxHeartbeats 4000000 in
theorem extend_anyP {n : Nat} (hn : n ≤ 8) (base ob lb yb eb gl l cb B0 : Nat) (D : OrdD cb base ob lb yb eb gl) (J : List (List Nat) → (Nat → Prop) → World → Prop) (hJ : AbP B0 J) (hB0 : B0 ≤ ob ∧ B0 ≤ base)
    (hY : ∀ done Pt x v W1, J done Pt W1 → (∀ r, Pt r → r < W1.heap.size ∧ B0 ≤ r) → Rd W1 v (nI x) → x ∈ ordL n → YieldAt Fence.wide 0 Try.prog l #[v] W1 fun e W' => e = .returned (.bool true) ∧ ∃ Pt', J (done ++ [x]) Pt' W' ∧ (∀ r, Pt' r → r < W'.heap.size ∧ (Pt r ∨ W1.heap.size ≤ r)) ∧ KpC cb W1 W') :
    ∀ (m : Nat) (pre : List Nat) (done : List (List Nat)) (Pt : Nat → Prop) (W : World), pre.length + m = n → pre.Nodup → (∀ x ∈ pre, x < n) → base ≤ W.heap.size → (∀ r, Pt r → B0 ≤ r) → J done Pt W → OrdT W ob lb yb eb gl n l → OrdQ W base ob Pt pre →
    Calls Try.prog 73 #[.pointer (some ⟨ob, 0, none⟩), .pointer (some ⟨lb, 0, none⟩), .pointer (some ⟨yb, 0, none⟩), .pointer (some ⟨eb, 0, none⟩)] W (ExtQ J (done ++ ordFrom n m pre) base ob lb yb eb gl n l B0 pre) := by
  intro m
  induction m with
  | zero =>
    intro pre done Pt W hl hd hx hW hpt hj T O
    exact extend_zeroP base ob lb yb eb gl l cb B0 hB0.2 D J hY pre done W (mem_ordL.2 ⟨by omega, hx, hd⟩) hW Pt hpt hj T O
  | succ m ih =>
    intro pre done Pt W hl hd hx hW hpt hj T O
    have HPT := Lib.hid hpt
    have IH := Lib.hid ih
    have HYY := Lib.hid hY
    have HJ := Lib.hid hJ
    have HJ0 := Lib.hid hj
    have HX := Lib.hid hx
    have HD := Lib.hid hd
    clear ih hY hJ hj hx hd hpt
    obtain ⟨q, hq⟩ : ∃ q, pre.length = q := ⟨_, rfl⟩
    obtain ⟨v, hv, ho, hnv, hno, hps⟩ := O
    obtain ⟨A, c, rfl, hcm, hlc, -⟩ := ho.form
    rw [nI_len, hq] at hv ho hlc hnv
    have hqn : (((q : Nat) : Int) == ((n : Nat) : Int)) = false := by simp; omega
    have HQ := Lib.hid hq
    have HO := Lib.hid ho
    have HNV := Lib.hid hnv
    have HNO := Lib.hid hno
    have HPS := Lib.hid hps
    have HT := Lib.hid T
    have l1 := T.lst
    have HV := Lib.hid hv
    have hl2 : q + (m + 1) = n := by rw [← hq]; exact hl
    have hW0 : ob < W.heap.size := Nat.lt_of_lt_of_le D.hbs.2.1 hW
    have HSUC := Lib.hid (ordFrom_succ n m pre)
    have HK0 : Hid (J (done ++ ordK n m pre 0) Pt W) := by unfold Hid ordK; simpa using HJ0.out
    clear T ho hq hl hnv hno hps
    go_enter Try.func73, Try.ntmps73
    go_wp2
    clear l1 hv
    go_loopw [18] (fun i wr => ∃ k : Nat, k ≤ n ∧ i = .int .i64 k ∧ Hid (∃ Pt, J (done ++ ordK n m pre k) Pt wr ∧ OrdQ wr base ob Pt pre ∧ ∀ r, Pt r → B0 ≤ r) ∧ Hid (OrdT wr ob lb yb eb gl n l) ∧ base ≤ wr.heap.size) (fun i _ => n - (intOf i).toNat)
    case atStart => exact ⟨0, by omega, rfl, ⟨Pt, HK0.out, ⟨_, HV.out, HO.out, HNV.out, HNO.out, HPS.out⟩, HPT.out⟩, HT.out, hW⟩
    case round =>
      obtain ⟨wo, rfl⟩ : ∃ x, x = wr := ⟨_, rfl⟩
      obtain ⟨k, hk, rfl, HJQ, HTK, hwk⟩ := hrel
      obtain ⟨Pk, hjk, hoq, hpk⟩ := HJQ.out
      have HJK := Lib.hid hjk
      have HOQ := Lib.hid hoq
      have HPK := Lib.hid hpk
      clear HJQ hjk hoq hpk
      by_cases hlt : k < n
      · obtain ⟨vk, hvk, hok, hnk, hnob, hpsk⟩ := HOQ.out
        have HNK := Lib.hid hnk
        have HNB := Lib.hid hnob
        have HSK := Lib.hid hpsk
        clear hnk hnob hpsk
        have ck := HTK.out.arr k hlt
        have hobw : ob < wo.heap.size := Nat.lt_of_lt_of_le D.hbs.2.1 hwk
        have HVK := Lib.hid hvk
        have HOW := Lib.hid hok
        rcases hc : pre.contains k with _ | _
        · have hcc : containsI (nI pre) (k : Int) = false := (contains_nI pre k).trans hc
          have HC := Lib.hid hc
          clear hc hok
          have hkm : (k : Nat) ∉ pre := by simpa using HC.out
          have HPL : Hid ((pre ++ [k]).length + m = n) := by unfold Hid; rw [List.length_append, HQ.out]; simp; omega
          have HPN : Hid ((pre ++ [k]).Nodup) := by
            unfold Hid
            rw [List.nodup_append]
            exact ⟨HD.out, by simp, fun x hx y hy => by rw [List.mem_singleton] at hy; subst hy; intro e; subst e; exact hkm hx⟩
          have HPX : Hid (∀ x ∈ pre ++ [k], x < n) := fun x hx => by
            rw [List.mem_append, List.mem_singleton] at hx
            rcases hx with hx | rfl
            · exact HX.out x hx
            · exact hlt
          have hlen1 : (nI pre).length ≤ 1099511627776 := by rw [nI_len, HQ.out]; omega
          have HSN : Hid ((nI pre ++ [(k : Int)]).length = q + 1) := by unfold Hid; rw [List.length_append, nI_len, HQ.out]; rfl
          have HSN2 : Hid ((nI (pre ++ [k])).length = q + 1) := by unfold Hid; rw [nI_snoc]; exact HSN.out
          clear hkm
          go_wp2_with (first
            | (go_at_call 74; refine (contains_any _ (nI pre) _ _ HOW.out.rd).mono ?_; rintro e w1 ⟨rfl, rfl⟩)
            | (at_builtin; refine wp_append1a _ rfl (.tmp 25) (.tmp 27) rfl base _ (nI pre) (k : Int) rfl HOW.out (by simp [Act.eval]) hlen1 hwk ?_; intro v5 w5 hown1 hg1 hat1
               obtain ⟨A5, c5, rfl, -, -, -⟩ := hown1.form
               rw [HSN.out] at hown1 hat1 ⊢
               have HN5 : Hid (∀ r, (Value.slice A5 (q + 1) c5).ownBlock = some r → ¬ Pk r) := fun r hr hq => by
                 rcases hat1 r hr with h | h
                 · exact HNK.out r h hq
                 · have := HSK.out r hq; omega
               have HS5 : Hid (∀ r, Pk r → r < w5.heap.size) := fun r h => Nat.lt_of_lt_of_le (HSK.out r h) hg1.size
               clear hat1
               have HO5 := Lib.hid hown1
               have HT5 := Lib.hid (HTK.out.grown D hg1 (fun r hr => (HOW.out.lt r hr).1) hobw)
               have v5 := (World.cell?_of_block (a := ⟨ob, 0, none⟩) (hg1.block ob hobw (fun e => by have h1 := (HOW.out.lt _ e.symm).1; have h2 := D.hbs.2.1; omega))).trans HVK.out
               have f5 := HT5.out.frz
               have e6 := (HT5.out.setOb D (.slice A5 (q + 1) c5)).ext
               have HJ6 := Lib.hid (HJ.out _ _ _ _ _ (HJ.out _ _ _ _ _ HJK.out hg1 (fun r hr => ⟨Nat.le_trans hB0.2 (HOW.out.lt r hr).1, HNK.out r hr⟩)) (setCell_grown w5 ⟨ob, 0, none⟩ (.slice A5 (q + 1) c5)) (fun r hr => by injection hr with hr; rw [← hr]; exact ⟨hB0.1, HNB.out⟩))
               have HO6 := Lib.hid (show OrdQ (w5.setCell ⟨ob, 0, none⟩ (.slice A5 (q + 1) c5)) base ob Pk (pre ++ [k]) from ⟨_, World.cell?_setCell_same _ _ _ v5, by rw [nI_snoc]; exact HO5.out.kept (setCell_grown w5 ⟨ob, 0, none⟩ _) (own_ne (fun r hr => (HO5.out.lt r hr).1) D.hbs.2.1), HN5.out, HNB.out, fun r h => by simpa using HS5.out r h⟩)
               have hs6 : base ≤ (w5.setCell ⟨ob, 0, none⟩ (.slice A5 (q + 1) c5)).heap.size := by have := hg1.size; simp; omega
               clear hown1 hg1)
            | (go_at_call 73; refine (IH.out (pre ++ [k]) (done ++ ordK n m pre k) Pk _ HPL.out HPN.out HPX.out hs6 HPK.out HJ6.out (HT5.out.setOb D _) HO6.out).mono ?_
               rintro e w7 ⟨rfl, P7, hj7, ht7, ⟨v7, hv7, ho7, hn7, hno7, hps7⟩, hs7, hp7⟩
               obtain ⟨A7, c7, rfl, -, hlc7, hA7⟩ := ho7.form
               rw [HSN2.out] at hv7 ho7 hlc7 hA7
               obtain ⟨g7, rfl, -, -⟩ := hA7 (by omega)
               have HJ7 := Lib.hid hj7
               have HN7 := Lib.hid hn7
               have HNO7 := Lib.hid hno7
               have HPS7 := Lib.hid hps7
               have HP7 := Lib.hid hp7
               have HT7 := Lib.hid ht7
               have HO7 := Lib.hid ho7
               have HV7 := Lib.hid hv7
               have f7 := ht7.frz
               clear v5 f5 e6 hj7 ht7 ho7 hA7 hn7 hno7 hps7 hp7))
          go_roundw
          case rel =>
            have hg8 := setCell_grown w7 ⟨ob, 0, none⟩ (.slice (some ⟨g7, 0, none⟩) q c7)
            refine ⟨k + 1, by omega, by go_num, ⟨P7, ?_, ⟨_, World.cell?_setCell_same _ _ _ HV7.out, ?_, HN7.out, HNO7.out, fun r h => by simpa using HPS7.out r h⟩, HP7.out⟩, HT7.out.setOb D _, by simp; exact hs7⟩
            · have := HJ.out _ _ _ _ _ HJ7.out hg8 (fun r hr => by injection hr with hr; rw [← hr]; exact ⟨hB0.1, HNO7.out⟩)
              rw [List.append_assoc, ← ordK_yes HC.out] at this
              exact this
            · have h7 := HO7.out
              rw [nI_snoc] at h7
              exact (own_prefix (by rw [nI_len]; exact HQ.out) h7).kept hg8 (own_ne (fun r hr => (HO7.out.lt r hr).1) D.hbs.2.1)
          case measure => simp [intOf]; omega
        · have hcc : containsI (nI pre) (k : Int) = true := (contains_nI pre k).trans hc
          have HC := Lib.hid hc
          clear hc hok
          go_wp2_with (go_at_call 74; refine (contains_any _ (nI pre) _ _ HOW.out.rd).mono ?_; rintro e w1 ⟨rfl, rfl⟩)
          go_roundw
          case rel => exact ⟨k + 1, by omega, by go_num, ⟨Pk, by rw [ordK_no HC.out]; exact HJK.out, HOQ.out, HPK.out⟩, HTK.out, hwk⟩
          case measure => simp [intOf]; omega
      · obtain rfl : n = k := by omega
        go_wp2
        go_ret
        exact ⟨rfl, Pk, HJK.out, HTK.out, HOQ.out, hwk, HPK.out⟩
set_option maxHeartbeats 2000000 in
/-- the iterator gives all orders, in depth first order -/
theorem orders_allP {n : Nat} (hn : n ≤ 8) (lb gl cb : Nat) (w0 : World) (hgl : gl < w0.heap.size) (hlb : lb < w0.heap.size) (hcb : cb < w0.heap.size) (hne : cb ≠ lb ∧ cb ≠ gl)
    (h1 : w0.cell? ⟨lb, 0, none⟩ = some (.slice (some ⟨gl, 0, none⟩) n n)) (h2 : ∀ k, k < n → w0.cell? ⟨gl, k, none⟩ = some (.int .i64 (k : Nat))) :
    SeqAllP Try.prog 72 #[.pointer (some ⟨lb, 0, none⟩)] cb (fun W (x : List Nat) v => Rd W v (nI x)) (ordL n) w0 := by
  intro l J W hB hJ hY h0
  have hsz := hB.size
  have D : OrdD cb (W.heap.size + 1 + 1 + 1) (W.heap.size + 1) lb W.heap.size (W.heap.size + 1 + 1) gl := ⟨⟨by omega, hne.1, by omega, by omega, hne.2⟩, ⟨by omega, by omega, by omega, by omega⟩, ⟨by omega, by omega, by omega, by omega, by omega, by omega⟩⟩
  have l1 := (hB.cell (p := ⟨lb, 0, none⟩) hlb).trans h1
  have l2 : ∀ k, k < n → W.cell? ⟨gl, k, none⟩ = some (.int .i64 (k : Nat)) := fun k hk => (hB.cell (p := ⟨gl, k, none⟩) hgl).trans (h2 k hk)
  have E := Lib.hid (extend_anyP hn (W.heap.size + 1 + 1 + 1) (W.heap.size + 1) lb W.heap.size (W.heap.size + 1 + 1) gl l cb W.heap.size D J hJ ⟨by omega, by omega⟩ hY n [] [] (fun _ => False))
  have HJ := Lib.hid hJ
  have HJ0 := Lib.hid h0
  have HL1 := Lib.hid l1
  have HL2 := Lib.hid l2
  clear hJ hY h0 l1 l2 h1 h2
  go_enter Try.func72, Try.ntmps72
  go_wp2_with fail
  have hb3 := ((below_alloc1 W (.cells #[.func (.yield l) #[] #[]] 74)).alloc (by simp) (.cells #[.slice none 0 0] 22)).alloc (by simp; omega) (.cells #[.func (.func 73) #[] #[.pointer (some ⟨W.heap.size + 1, 0, none⟩), .pointer (some ⟨lb, 0, none⟩), .pointer (some ⟨W.heap.size, 0, none⟩), .pointer (some ⟨W.heap.size + 1 + 1, 0, none⟩)]] 77)
  have T3 : OrdT (((W.alloc (.cells #[.func (.yield l) #[] #[]] 74)).alloc (.cells #[.slice none 0 0] 22)).alloc (.cells #[.func (.func 73) #[] #[.pointer (some ⟨W.heap.size + 1, 0, none⟩), .pointer (some ⟨lb, 0, none⟩), .pointer (some ⟨W.heap.size, 0, none⟩), .pointer (some ⟨W.heap.size + 1 + 1, 0, none⟩)]] 77)) (W.heap.size + 1) lb W.heap.size (W.heap.size + 1 + 1) gl n l := ⟨(hb3.cell (p := ⟨lb, 0, none⟩) (by show lb < _; omega)).trans HL1.out, fun k hk => (hb3.cell (p := ⟨gl, k, none⟩) (by show gl < _; omega)).trans (HL2.out k hk), (three_new _ _ _ _ _ _ _).1, (three_new _ _ _ _ _ _ _).2.2.1, (three_new _ _ _ _ _ _ _).2.2.2⟩
  have O3 : OrdQ (((W.alloc (.cells #[.func (.yield l) #[] #[]] 74)).alloc (.cells #[.slice none 0 0] 22)).alloc (.cells #[.func (.func 73) #[] #[.pointer (some ⟨W.heap.size + 1, 0, none⟩), .pointer (some ⟨lb, 0, none⟩), .pointer (some ⟨W.heap.size, 0, none⟩), .pointer (some ⟨W.heap.size + 1 + 1, 0, none⟩)]] 77)) (W.heap.size + 1 + 1 + 1) (W.heap.size + 1) (fun _ => False) [] := ⟨.slice none 0 0, (three_new _ _ _ _ _ _ _).2.1, Own.nil_ _ _, fun _ _ h => h, fun h => h, fun _ h => h.elim⟩
  have J3 : J [] (fun _ => False) (((W.alloc (.cells #[.func (.yield l) #[] #[]] 74)).alloc (.cells #[.slice none 0 0] 22)).alloc (.cells #[.func (.func 73) #[] #[.pointer (some ⟨W.heap.size + 1, 0, none⟩), .pointer (some ⟨lb, 0, none⟩), .pointer (some ⟨W.heap.size, 0, none⟩), .pointer (some ⟨W.heap.size + 1 + 1, 0, none⟩)]] 77)) := HJ.out.alloc _ (HJ.out.alloc _ (HJ.out.alloc _ HJ0.out))
  refine (E.out (((W.alloc (.cells #[.func (.yield l) #[] #[]] 74)).alloc (.cells #[.slice none 0 0] 22)).alloc (.cells #[.func (.func 73) #[] #[.pointer (some ⟨W.heap.size + 1, 0, none⟩), .pointer (some ⟨lb, 0, none⟩), .pointer (some ⟨W.heap.size, 0, none⟩), .pointer (some ⟨W.heap.size + 1 + 1, 0, none⟩)]] 77)) (by simp) (by simp) (by simp) (by simp) (fun _ h => h.elim) J3 T3 O3).mono ?_
  rintro e w4 ⟨rfl, P4, hj4, -, -, -, -⟩
  have HJ4 := Lib.hid hj4
  clear E HJ hb3 T3 O3 J3 hj4
  go_wp2
  go_end0
  exact ⟨⟨_, rfl⟩, P4, HJ4.out⟩
end Go.Proofs.Ytceeplhkokajhab
