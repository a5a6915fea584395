import Derived.Test.YtjgbakieogadfaaGreatDoorWalks1
namespace Go.Proofs.YtjgbakieogadfaaGreatDoor
open Go Go.Proofs L
set_option linter.unusedVariables false

-- (*holdfast/grant.Store).Drop
set_option maxHeartbeats 4000000 in
theorem W21 (K : Nat) (w0 : World) (cw : Col) (hcw : ∀ b, cw b < 40) {s : S_grant_Store} {tenant : List UInt8} {client : List UInt8} {r : Int × S_grant_Store} (hp : grant_Store_Drop K s tenant client = some r) {b : Nat} {b1 : Nat} {p_ : Value} (o : Bx 3 w0 cw p_ [(.map (some b)), (.map (some b1))]) (o1 : Mp kv74 (VR.flat vv43) 4 w0 cw (.map (some b)) s.clients) (o2 : Mp kv77 (VR.flat vv25) 5 w0 cw (.map (some b1)) s.consents) :
    Calls Tryz.prog 21 [p_, vS tenant, vS client].toArray w0 fun e w1 => ∃ (b2 : Nat) (b3 : Nat) (d : Col), e = .returned (vI r.1) ∧ St [3, 4, 5] w0 cw w1 d ∧ Bx 3 w1 d p_ [(.map (some b2)), (.map (some b3))] ∧ Mp kv74 (VR.flat vv43) 4 w1 d (.map (some b2)) r.2.clients ∧ Mp kv77 (VR.flat vv25) 5 w1 d (.map (some b3)) r.2.consents := by
  refine calls_intro Tryz.func21 rfl Tryz.ntmps21 rfl ?_
  unfold grant_Store_Drop at hp
  refine WC.seq (WC.region ?_)
  refine WR.k rfl rfl rfl (OS.boxBx (us := [vS tenant]) (c := cw) 40 rfl rfl rfl ?_); intro p_1 w_ c_ o3 s1
  refine WR.k rfl rfl rfl (OS.boxBx (us := [vS client]) (c := c_) 41 rfl rfl rfl ?_); intro p_2 w_1 c_1 o4 s2
  refine WR.k rfl rfl rfl (OS.assign (v := vI (0 : Int)) rfl rfl ?_)
  refine WR.nil ?_
  refine WC.seq (WC.region ?_)
  refine WR.k rfl rfl rfl (OS.move (v := p_) rfl rfl ?_)
  have o5 := o3.keep s2 (by decide)
  refine WR.k rfl rfl rfl (OS.ld1 (u := vS tenant) rfl Tryz.isAgg9 rfl o5.ldAll ?_)
  refine WR.k rfl rfl rfl (OS.ld1 (u := vS client) rfl Tryz.isAgg9 rfl o4.ldAll ?_)
  have o6 := o.keep (s1.t s2) (by decide)
  have o7 := o1.keep (s1.t s2) (by decide) (by decide)
  have o8 := o2.keep (s1.t s2) (by decide) (by decide)
  obtain ⟨r_, hr_, hp⟩ := bind_some hp
  refine WR.k rfl rfl rfl (OS.callF (vs := [p_, vS tenant, vS client]) rfl ⟨rfl, rfl, rfl, trivial⟩ Tryz.call39 ((W39 K w_1 (rcc [3, 4, 5] c_1) (rcc_lt c_1 rfl) hr_ (o6.tr (rc_tr (by decide))) (o7.tr (rc_tr (by decide))) (o8.tr (rc_tr (by decide)))).mono ?_))
  rintro _ w_2 ⟨d1, rfl, s3⟩
  refine ⟨_, rfl, ?_⟩
  obtain ⟨c_2, s4⟩ : ∃ c_2, St [] w_1 c_1 w_2 c_2 := ⟨_, s3.mg2 (sh := 10000) rfl⟩
  refine WR.k rfl rfl rfl (OS.move (v := .tuple #[.agg (E43.e r_.1).toArray, vI r_.2]) rfl rfl ?_)
  refine WR.k rfl rfl rfl (OS.extract (v := .agg (E43.e r_.1).toArray) rfl rfl rfl ?_)
  refine WR.k rfl rfl rfl (OS.extract (v := vI r_.2) rfl rfl rfl ?_)
  refine WR.k rfl rfl rfl (OS.allocBx (us := [vS ([] : List UInt8), vS ([] : List UInt8), vS ([] : List UInt8), vU8 (0 : UInt8)]) (c := c_2) 42 rfl Tryz.zeroValue43 rfl ?_); intro p_3 w_3 c_3 o9 s5
  refine WR.k0 rfl rfl (OS.stBxAll (v := .agg (E43.e r_.1).toArray) (ws := [vS r_.1.Tenant, vS r_.1.Name, vS r_.1.Redirect, vU8 r_.1.Scopes]) rfl Tryz.sizeOf43 rfl rfl rfl o9 rfl rfl (one_of rfl) ?_); intro w_4 o10 s6
  refine WR.k rfl rfl rfl (OS.assign (v := vI r_.2) rfl rfl ?_)
  refine WR.nil ?_
  refine WC.seq ?_
  refine WC.seq (WC.region ?_)
  refine WR.k rfl rfl rfl (OS.move (v := vI r_.2) rfl rfl ?_)
  refine WR.k rfl rfl rfl (OS.bin (a := vI r_.2) (b := vI (0 : Int)) rfl rfl rfl bI_eql ?_)
  refine WR.nil ?_
  refine WC.endJ (fun f_ w_5 => ∃ (x : List (S_grant_name × S_api_Client)) (x1 : List (S_grant_use × UInt8)) (c_4 : Col), grant_Store_Drop.j1 K r_ x x1 = some r ∧ f_ 0 = p_ ∧ f_ 8 = vI r_.2 ∧ Mp kv74 (VR.flat vv43) 4 w_5 c_4 (.map (some b)) x ∧ Mp kv77 (VR.flat vv25) 5 w_5 c_4 (.map (some b1)) x1 ∧ Bx 3 w_5 c_4 p_ [(.map (some b)), (.map (some b1))] ∧ St [4, 5] w_4 c_3 w_5 c_4) ?_ ?_
  · refine WC.cond (decide (r_.2 = (0 : Int))) rfl (fun hb => ?_) (fun hb => ?_)
    · rw [if_pos hb] at hp
      have o14 := o6.keep ((s4.t s5).t s6) (by decide)
      have o15 := o5.keep ((s4.t s5).t s6) (by decide)
      have o16 := o4.keep ((s4.t s5).t s6) (by decide)
      refine WC.seq (WC.draw3 (c := c_3) ⟨7, [[], [], [], [], [], [], []], [[], [], [], [], [], [], []], [], [[], [0], [1], [2], [], [], [4, 5]], [3, 6]⟩ [[], [], [], [], [], [], []] [[18], [19], [20], [21], [22], [23], [24]] [fun yf yw yc => (yf 18) = p_, fun yf yw yc => (yf 19) = p_, fun yf yw yc => AdrP p_ 0 1 (yf 20), fun yf yw yc => (yf 21) = (.map (some b)), fun yf yw yc => (yf 22) = vS tenant, fun yf yw yc => (yf 23) = vS client, fun yf yw yc => (yf 24) = .agg (E74.e (⟨tenant, client⟩ : S_grant_name)).toArray] hmix (by kernel_rfl) (by kernel_rfl) ⟨?_, ?_, ?_, ?_, ?_, ?_, ?_, trivial⟩ ⟨fun y1 y2 yw yc yI yw1 yc1 yh ye ys yk => by obtain ⟨ye0, -⟩ := ye; show (y2 18) = p_; rw [ye0]; exact yh, fun y1 y2 yw yc yI yw1 yc1 yh ye ys yk => by obtain ⟨ye0, -⟩ := ye; show (y2 19) = p_; rw [ye0]; exact yh, fun y1 y2 yw yc yI yw1 yc1 yh ye ys yk => by obtain ⟨ye0, -⟩ := ye; show AdrP p_ 0 1 (y2 20); rw [ye0]; exact yh, fun y1 y2 yw yc yI yw1 yc1 yh ye ys yk => by obtain ⟨ye0, -⟩ := ye; show (y2 21) = (.map (some b)); rw [ye0]; exact yh, fun y1 y2 yw yc yI yw1 yc1 yh ye ys yk => by obtain ⟨ye0, -⟩ := ye; show (y2 22) = vS tenant; rw [ye0]; exact yh, fun y1 y2 yw yc yI yw1 yc1 yh ye ys yk => by obtain ⟨ye0, -⟩ := ye; show (y2 23) = vS client; rw [ye0]; exact yh, fun y1 y2 yw yc yI yw1 yc1 yh ye ys yk => by obtain ⟨ye0, -⟩ := ye; show (y2 24) = .agg (E74.e (⟨tenant, client⟩ : S_grant_name)).toArray; rw [ye0]; exact yh, trivial⟩ ?_)
      · rintro f_1 w_6 c_5 hB hs ⟨-⟩ o ho; obtain rfl : _ = o := Option.some.inj ho
        exact OS.move (v := p_) rfl ((hB 0 (by kernel_rfl)).trans (show _ = p_ from rfl)) ⟨_, St.refl, rfl⟩
      · rintro f_2 w_7 c_6 hB1 hs1 ⟨g, -⟩ o ho; obtain rfl : _ = o := Option.some.inj ho
        replace g : (f_2 18) = p_ := g
        have o17 := o6.keep (((s4.t s5).t s6).t hs1) (by decide)
        exact OS.nilCheckBx rfl g o17 ⟨_, St.refl, rfl⟩
      · rintro f_3 w_8 c_7 hB2 hs2 ⟨g1, -⟩ o ho; obtain rfl : _ = o := Option.some.inj ho
        replace g1 : (f_3 19) = p_ := g1
        have o18 := o14.keep hs2 (by decide)
        exact OS.fieldAddrBx rfl Tryz.runUnderlying69 rfl Tryz.sizeOf66 rfl g1 o18 (fun _ h => ⟨_, St.refl, h⟩)
      · rintro f_4 w_9 c_8 hB3 hs3 ⟨g2, -⟩ o ho; obtain rfl : _ = o := Option.some.inj ho
        replace g2 : AdrP p_ 0 1 (f_4 20) := g2
        have o19 := o14.keep hs3 (by decide)
        exact OS.ld1 (u := (.map (some b))) rfl Tryz.isAgg66 rfl (o19.ldn g2 (sub_of rfl)) ⟨_, St.refl, rfl⟩
      · rintro f_5 w_10 c_9 hB4 hs4 ⟨-⟩ o ho; obtain rfl : _ = o := Option.some.inj ho
        have o20 := o5.keep (((s4.t s5).t s6).t hs4) (by decide)
        exact OS.ld1 (u := vS tenant) rfl Tryz.isAgg9 ((hB4 4 (by kernel_rfl)).trans (show _ = p_1 from rfl)) o20.ldAll ⟨_, St.refl, rfl⟩
      · rintro f_6 w_11 c_10 hB5 hs5 ⟨-⟩ o ho; obtain rfl : _ = o := Option.some.inj ho
        have o21 := o4.keep (((s4.t s5).t s6).t hs5) (by decide)
        exact OS.ld1 (u := vS client) rfl Tryz.isAgg9 ((hB5 5 (by kernel_rfl)).trans (show _ = p_2 from rfl)) o21.ldAll ⟨_, St.refl, rfl⟩
      · rintro f_7 w_12 c_11 hB6 hs6 ⟨g3, g4, -⟩ o ho; obtain rfl : _ = o := Option.some.inj ho
        replace g3 : (f_7 22) = vS tenant := g3
        replace g4 : (f_7 23) = vS client := g4
        exact OS.build (v := .agg (E74.e (⟨tenant, client⟩ : S_grant_name)).toArray) [(0, vS tenant), (1, vS client)] rfl ⟨rfl, g3, rfl, g4, trivial⟩ (fun _ => by kernel_rfl) ⟨_, St.refl, rfl⟩
      · rintro f_8 w_13 c_12 hB7 hs7 ⟨g5, g6, -⟩
        replace g5 : (f_8 21) = (.map (some b)) := g5
        replace g6 : (f_8 24) = .agg (E74.e (⟨tenant, client⟩ : S_grant_name)).toArray := g6
        have h := (hB7 0 (by kernel_rfl)).trans (show _ = p_ from rfl)
        have h1 := (hB7 4 (by kernel_rfl)).trans (show _ = p_1 from rfl)
        have h2 := (hB7 5 (by kernel_rfl)).trans (show _ = p_2 from rfl)
        have h3 := (hB7 8 (by kernel_rfl)).trans (show _ = vI r_.2 from rfl)
        have o22 := o7.keep (((s4.t s5).t s6).t hs7) (by decide) (by decide)
        obtain ⟨m, hm, hp⟩ := bind_some hp
        replace hm := (Option.some.inj hm).symm
        refine WR.k0 rfl rfl (OS.mapDel (a := (⟨tenant, client⟩ : S_grant_name)) rfl K74 Tryz.underlying66 g5 g6 o22 (by decide) ?_); intro w_14 o23 s7
        replace o23 : Mp kv74 (VR.flat vv43) 4 w_14 c_12 (.map (some b)) m := by rw [hm]; exact o23
        refine WR.nil ?_
        refine WC.region ?_
        refine WR.k rfl rfl rfl (OS.move (v := p_) rfl h ?_)
        have o24 := o14.keep (hs7.t s7) (by decide)
        refine WR.k rfl rfl rfl (OS.nilCheckBx rfl rfl o24 ?_)
        refine WR.k rfl rfl rfl (OS.fieldAddrBx rfl Tryz.runUnderlying69 rfl Tryz.sizeOf67 rfl rfl o24 ?_); intro p_4 a2
        refine WR.k rfl rfl rfl (OS.ld1 (u := (.map (some b1))) rfl Tryz.isAgg67 rfl (o24.ldn a2 (sub_of rfl)) ?_)
        refine WR.k rfl rfl rfl (OS.makeFunc (vs := [p_1, p_2]) rfl ⟨h1, h2, trivial⟩ ?_)
        have o25 := o8.keep ((((s4.t s5).t s6).t hs7).t s7) (by decide) (by decide)
        have o26 := o15.keep (hs7.t s7) (by decide)
        have o27 := o16.keep (hs7.t s7) (by decide)
        obtain ⟨r_1, hr_1, hp⟩ := bind_some hp
        refine WR.k rfl rfl rfl (OS.callF (vs := [(.map (some b1)), .func (.func 54) #[] [p_1, p_2].toArray]) rfl ⟨rfl, rfl, trivial⟩ Tryz.call53 ((W53f54 (i := 0) (i1 := 0) K w_14 (rcc [5] c_12) (rcc_lt c_12 rfl) hr_1 (o25.tr (rc_tr (by decide))) (by decide) (o26.tr (rc_tr (by decide))) (by decide) (o27.tr (rc_tr (by decide)))).mono ?_))
        rintro _ w_15 ⟨d2, rfl, s8, o28⟩
        refine ⟨_, rfl, ?_⟩
        obtain ⟨c_13, s9, o28⟩ : ∃ c_13, St [5] w_14 c_12 w_15 c_13 ∧ Mp kv77 (VR.flat vv25) 5 w_15 c_13 (.map (some b1)) r_1 := ⟨_, s8.mg2 (sh := 30000) rfl, o28.tr (mg2_back s8 rfl)⟩
        refine WR.nil ?_
        have o29 := o23.keep s9 (by decide) (by decide)
        have o30 := o24.keep s9 (by decide)
        exact ⟨_, _, _, hp, h, h3, o29, o28, o30, ((hs7.t s7).t s9).mono (by decide)⟩
    · rw [if_neg (nt hb)] at hp
      refine WC.skip ?_
      have o31 := o7.keep ((s4.t s5).t s6) (by decide) (by decide)
      have o32 := o8.keep ((s4.t s5).t s6) (by decide) (by decide)
      have o33 := o6.keep ((s4.t s5).t s6) (by decide)
      exact ⟨_, _, _, hp, rfl, rfl, o31, o32, o33, St.refl.mono (by decide)⟩
  · rintro f_ w_5 ⟨x, x1, c_4, hp, h4, h5, o12, o13, o11, s10⟩
    unfold grant_Store_Drop.j1 at hp
    refine WC.seq (WC.region ?_)
    refine WR.k rfl rfl rfl (OS.move (v := vI r_.2) rfl h5 ?_)
    refine WR.k rfl rfl rfl (OS.assign (v := vI r_.2) rfl rfl ?_)
    refine WR.nil ?_
    refine WC.ret ?_
    repeat first | refine thenQ_ret ?_ | refine blkQ_ret ?_
    cases hp
    exact fnQ.l1 (fn := Tryz.f21) rfl (.inl ⟨_, rfl, rfl⟩) ⟨_, _, _, rfl, (((((s1.t s2).t s4).t s5).t s6).t s10).leave hcw (by decide), o11, o12, o13⟩

-- (*holdfast/grant.Store).Withdraw
set_option maxHeartbeats 4000000 in
theorem W23 (K : Nat) (w0 : World) (cw : Col) (hcw : ∀ b, cw b < 40) {s : S_grant_Store} {o3 : S_api_Owner} {client : List UInt8} {r : Int × S_grant_Store} (hp : grant_Store_Withdraw K s o3 client = some r) {b : Nat} {b1 : Nat} {p_ : Value} (o : Bx 3 w0 cw p_ [(.map (some b)), (.map (some b1))]) (o1 : Mp kv74 (VR.flat vv43) 4 w0 cw (.map (some b)) s.clients) (o2 : Mp kv77 (VR.flat vv25) 5 w0 cw (.map (some b1)) s.consents) :
    Calls Tryz.prog 23 [p_, .agg (E24.e o3).toArray, vS client].toArray w0 fun e w1 => ∃ (b2 : Nat) (b3 : Nat) (d : Col), e = .returned (vI r.1) ∧ St [3, 4, 5] w0 cw w1 d ∧ Bx 3 w1 d p_ [(.map (some b2)), (.map (some b3))] ∧ Mp kv74 (VR.flat vv43) 4 w1 d (.map (some b2)) r.2.clients ∧ Mp kv77 (VR.flat vv25) 5 w1 d (.map (some b3)) r.2.consents := by
  refine calls_intro Tryz.func23 rfl Tryz.ntmps23 rfl ?_
  unfold grant_Store_Withdraw at hp
  refine WC.seq (WC.region ?_)
  refine WR.k rfl rfl rfl (OS.boxBx (us := [vS o3.Tenant, vS o3.User]) (c := cw) 40 rfl rfl rfl ?_); intro p_1 w_ c_ o4 s1
  refine WR.k rfl rfl rfl (OS.assign (v := vI (0 : Int)) rfl rfl ?_)
  refine WR.nil ?_
  refine WC.seq (WC.region ?_)
  refine WR.k rfl rfl rfl (OS.move (v := p_) rfl rfl ?_)
  refine WR.k rfl rfl rfl (OS.ldN (us := [vS o3.Tenant, vS o3.User]) rfl Tryz.isAgg24 Tryz.sizeOf24 rfl o4.ldAll rfl ?_)
  refine WR.k rfl rfl rfl (OS.move (v := vS client) rfl rfl ?_)
  have o5 := o.keep s1 (by decide)
  have o6 := o1.keep s1 (by decide) (by decide)
  have o7 := o2.keep s1 (by decide) (by decide)
  obtain ⟨r_, hr_, hp⟩ := bind_some hp
  refine WR.k rfl rfl rfl (OS.callF (vs := [p_, .agg (E24.e o3).toArray, vS client]) rfl ⟨rfl, rfl, rfl, trivial⟩ Tryz.call19 ((W19 K w_ (rcc [3, 4, 5] c_) (rcc_lt c_ rfl) hr_ (o5.tr (rc_tr (by decide))) (o6.tr (rc_tr (by decide))) (o7.tr (rc_tr (by decide)))).mono ?_))
  rintro _ w_1 ⟨d1, rfl, s2⟩
  refine ⟨_, rfl, ?_⟩
  obtain ⟨c_1, s3⟩ : ∃ c_1, St [] w_ c_ w_1 c_1 := ⟨_, s2.mg2 (sh := 10000) rfl⟩
  refine WR.k rfl rfl rfl (OS.move (v := .tuple #[.agg (E47.e r_.1).toArray, vI r_.2]) rfl rfl ?_)
  refine WR.k rfl rfl rfl (OS.extract (v := .agg (E47.e r_.1).toArray) rfl rfl rfl ?_)
  refine WR.k rfl rfl rfl (OS.extract (v := vI r_.2) rfl rfl rfl ?_)
  refine WR.k rfl rfl rfl (OS.allocBx (us := [vS ([] : List UInt8), vS ([] : List UInt8), vS ([] : List UInt8), vU8 (0 : UInt8)]) (c := c_1) 41 rfl Tryz.zeroValue47 rfl ?_); intro p_2 w_2 c_2 o8 s4
  refine WR.k0 rfl rfl (OS.stBxAll (v := .agg (E47.e r_.1).toArray) (ws := [vS r_.1.Owner.Tenant, vS r_.1.Owner.User, vS r_.1.Client, vU8 r_.1.Scopes]) rfl Tryz.sizeOf47 rfl rfl rfl o8 rfl rfl (one_of rfl) ?_); intro w_3 o9 s5
  refine WR.k rfl rfl rfl (OS.assign (v := vI r_.2) rfl rfl ?_)
  refine WR.nil ?_
  refine WC.seq ?_
  refine WC.seq (WC.region ?_)
  refine WR.k rfl rfl rfl (OS.move (v := vI r_.2) rfl rfl ?_)
  refine WR.k rfl rfl rfl (OS.bin (a := vI r_.2) (b := vI (0 : Int)) rfl rfl rfl bI_eql ?_)
  refine WR.nil ?_
  refine WC.endJ (fun f_ w_4 => ∃ (x : List (S_grant_use × UInt8)) (c_3 : Col), grant_Store_Withdraw.j1 K r_ s x = some r ∧ f_ 0 = p_ ∧ f_ 8 = vI r_.2 ∧ Mp kv77 (VR.flat vv25) 5 w_4 c_3 (.map (some b1)) x ∧ Bx 3 w_4 c_3 p_ [(.map (some b)), (.map (some b1))] ∧ St [5] w_3 c_2 w_4 c_3) ?_ ?_
  · refine WC.cond (decide (r_.2 = (0 : Int))) rfl (fun hb => ?_) (fun hb => ?_)
    · rw [if_pos hb] at hp
      have o12 := o5.keep ((s3.t s4).t s5) (by decide)
      have o13 := o4.keep ((s3.t s4).t s5) (by decide)
      refine WC.draw3 (c := c_2) ⟨7, [[], [], [], [], [], [], []], [[], [], [], [], [], [], []], [], [[], [0], [1], [2], [], [], [4, 5]], [3, 6]⟩ [[], [], [], [], [], [], []] [[18], [19], [20], [21], [22], [23], [24]] [fun yf yw yc => (yf 18) = p_, fun yf yw yc => (yf 19) = p_, fun yf yw yc => AdrP p_ 1 1 (yf 20), fun yf yw yc => (yf 21) = (.map (some b1)), fun yf yw yc => (yf 22) = .agg (E24.e o3).toArray, fun yf yw yc => (yf 23) = vS client, fun yf yw yc => (yf 24) = .agg (E77.e (⟨o3, client⟩ : S_grant_use)).toArray] hmix (by kernel_rfl) (by kernel_rfl) ⟨?_, ?_, ?_, ?_, ?_, ?_, ?_, trivial⟩ ⟨fun y1 y2 yw yc yI yw1 yc1 yh ye ys yk => by obtain ⟨ye0, -⟩ := ye; show (y2 18) = p_; rw [ye0]; exact yh, fun y1 y2 yw yc yI yw1 yc1 yh ye ys yk => by obtain ⟨ye0, -⟩ := ye; show (y2 19) = p_; rw [ye0]; exact yh, fun y1 y2 yw yc yI yw1 yc1 yh ye ys yk => by obtain ⟨ye0, -⟩ := ye; show AdrP p_ 1 1 (y2 20); rw [ye0]; exact yh, fun y1 y2 yw yc yI yw1 yc1 yh ye ys yk => by obtain ⟨ye0, -⟩ := ye; show (y2 21) = (.map (some b1)); rw [ye0]; exact yh, fun y1 y2 yw yc yI yw1 yc1 yh ye ys yk => by obtain ⟨ye0, -⟩ := ye; show (y2 22) = .agg (E24.e o3).toArray; rw [ye0]; exact yh, fun y1 y2 yw yc yI yw1 yc1 yh ye ys yk => by obtain ⟨ye0, -⟩ := ye; show (y2 23) = vS client; rw [ye0]; exact yh, fun y1 y2 yw yc yI yw1 yc1 yh ye ys yk => by obtain ⟨ye0, -⟩ := ye; show (y2 24) = .agg (E77.e (⟨o3, client⟩ : S_grant_use)).toArray; rw [ye0]; exact yh, trivial⟩ ?_
      · rintro f_1 w_5 c_4 hB hs ⟨-⟩ o ho; obtain rfl : _ = o := Option.some.inj ho
        exact OS.move (v := p_) rfl ((hB 0 (by kernel_rfl)).trans (show _ = p_ from rfl)) ⟨_, St.refl, rfl⟩
      · rintro f_2 w_6 c_5 hB1 hs1 ⟨g, -⟩ o ho; obtain rfl : _ = o := Option.some.inj ho
        replace g : (f_2 18) = p_ := g
        have o14 := o5.keep (((s3.t s4).t s5).t hs1) (by decide)
        exact OS.nilCheckBx rfl g o14 ⟨_, St.refl, rfl⟩
      · rintro f_3 w_7 c_6 hB2 hs2 ⟨g1, -⟩ o ho; obtain rfl : _ = o := Option.some.inj ho
        replace g1 : (f_3 19) = p_ := g1
        have o15 := o12.keep hs2 (by decide)
        exact OS.fieldAddrBx rfl Tryz.runUnderlying69 rfl Tryz.sizeOf67 rfl g1 o15 (fun _ h => ⟨_, St.refl, h⟩)
      · rintro f_4 w_8 c_7 hB3 hs3 ⟨g2, -⟩ o ho; obtain rfl : _ = o := Option.some.inj ho
        replace g2 : AdrP p_ 1 1 (f_4 20) := g2
        have o16 := o12.keep hs3 (by decide)
        exact OS.ld1 (u := (.map (some b1))) rfl Tryz.isAgg67 rfl (o16.ldn g2 (sub_of rfl)) ⟨_, St.refl, rfl⟩
      · rintro f_5 w_9 c_8 hB4 hs4 ⟨-⟩ o ho; obtain rfl : _ = o := Option.some.inj ho
        have o17 := o4.keep (((s3.t s4).t s5).t hs4) (by decide)
        exact OS.ldN (us := [vS o3.Tenant, vS o3.User]) rfl Tryz.isAgg24 Tryz.sizeOf24 ((hB4 4 (by kernel_rfl)).trans (show _ = p_1 from rfl)) o17.ldAll rfl ⟨_, St.refl, rfl⟩
      · rintro f_6 w_10 c_9 hB5 hs5 ⟨-⟩ o ho; obtain rfl : _ = o := Option.some.inj ho
        exact OS.move (v := vS client) rfl ((hB5 2 (by kernel_rfl)).trans (show _ = vS client from rfl)) ⟨_, St.refl, rfl⟩
      · rintro f_7 w_11 c_10 hB6 hs6 ⟨g3, g4, -⟩ o ho; obtain rfl : _ = o := Option.some.inj ho
        replace g3 : (f_7 22) = .agg (E24.e o3).toArray := g3
        replace g4 : (f_7 23) = vS client := g4
        exact OS.build (v := .agg (E77.e (⟨o3, client⟩ : S_grant_use)).toArray) [(0, .agg (E24.e o3).toArray), (1, vS client)] rfl ⟨rfl, g3, rfl, g4, trivial⟩ (fun _ => by kernel_rfl) ⟨_, St.refl, rfl⟩
      · rintro f_8 w_12 c_11 hB7 hs7 ⟨g5, g6, -⟩
        replace g5 : (f_8 21) = (.map (some b1)) := g5
        replace g6 : (f_8 24) = .agg (E77.e (⟨o3, client⟩ : S_grant_use)).toArray := g6
        have h := (hB7 0 (by kernel_rfl)).trans (show _ = p_ from rfl)
        have h1 := (hB7 8 (by kernel_rfl)).trans (show _ = vI r_.2 from rfl)
        have o18 := o7.keep (((s3.t s4).t s5).t hs7) (by decide) (by decide)
        obtain ⟨m, hm, hp⟩ := bind_some hp
        replace hm := (Option.some.inj hm).symm
        refine WR.k0 rfl rfl (OS.mapDel (a := (⟨o3, client⟩ : S_grant_use)) rfl K77 Tryz.underlying67 g5 g6 o18 (by decide) ?_); intro w_13 o19 s6
        replace o19 : Mp kv77 (VR.flat vv25) 5 w_13 c_11 (.map (some b1)) m := by rw [hm]; exact o19
        refine WR.nil ?_
        have o20 := o12.keep (hs7.t s6) (by decide)
        exact ⟨_, _, hp, h, h1, o19, o20, (hs7.t s6).mono (by decide)⟩
    · rw [if_neg (nt hb)] at hp
      refine WC.skip ?_
      have o21 := o7.keep ((s3.t s4).t s5) (by decide) (by decide)
      have o22 := o5.keep ((s3.t s4).t s5) (by decide)
      exact ⟨_, _, hp, rfl, rfl, o21, o22, St.refl.mono (by decide)⟩
  · rintro f_ w_4 ⟨x, c_3, hp, h2, h3, o11, o10, s7⟩
    unfold grant_Store_Withdraw.j1 at hp
    refine WC.seq (WC.region ?_)
    refine WR.k rfl rfl rfl (OS.move (v := vI r_.2) rfl h3 ?_)
    refine WR.k rfl rfl rfl (OS.assign (v := vI r_.2) rfl rfl ?_)
    refine WR.nil ?_
    refine WC.ret ?_
    repeat first | refine thenQ_ret ?_ | refine blkQ_ret ?_
    cases hp
    have o23 := o6.keep (((s3.t s4).t s5).t s7) (by decide) (by decide)
    exact fnQ.l1 (fn := Tryz.f23) rfl (.inl ⟨_, rfl, rfl⟩) ⟨_, _, _, rfl, ((((s1.t s3).t s4).t s5).t s7).leave hcw (by decide), o10, o23, o11⟩

-- (*holdfast/grant.Store).DropUser$1
set_option maxHeartbeats 4000000 in
theorem W55 (K : Nat) (w0 : World) (cw : Col) (hcw : ∀ b, cw b < 40) {u : S_grant_use} {x_ : UInt8} {x2 : S_api_Owner} {r : Bool} (hp : grant_Store_DropUser_1 K u x_ x2 = some r) {i : Nat} (hi : i ≤ 1) {p_ : Value} (o : Bx i w0 cw p_ [vS x2.Tenant, vS x2.User]) :
    Calls Tryz.prog 55 [.agg (E77.e u).toArray, vU8 x_, p_].toArray w0 fun e w1 => ∃ (d : Col), e = .returned (vB r) ∧ St [] w0 cw w1 d := by
  refine calls_intro Tryz.func55 rfl Tryz.ntmps55 rfl ?_
  unfold grant_Store_DropUser_1 at hp
  refine WC.seq (WC.region ?_)
  refine WR.k rfl rfl rfl (OS.boxBx (us := [vS u.Owner.Tenant, vS u.Owner.User, vS u.client]) (c := cw) 40 rfl rfl rfl ?_); intro p_1 w_ c_ o1 s
  refine WR.k rfl rfl rfl (OS.assign (v := vB false) rfl rfl ?_)
  refine WR.nil ?_
  refine WC.seq (WC.region ?_)
  refine WR.k rfl rfl rfl (OS.fieldAddrBx rfl Tryz.runUnderlying77 rfl Tryz.sizeOf24 rfl rfl o1 ?_); intro p_2 a1
  refine WR.k rfl rfl rfl (OS.ldN (us := [vS u.Owner.Tenant, vS u.Owner.User]) rfl Tryz.isAgg24 Tryz.sizeOf24 rfl (o1.ldn a1 (sub_of rfl)) rfl ?_)
  have o2 := o.keep s (nin hi (by decide))
  refine WR.k rfl rfl rfl (OS.ldN (us := [vS x2.Tenant, vS x2.User]) rfl Tryz.isAgg24 Tryz.sizeOf24 rfl o2.ldAll rfl ?_)
  refine WR.k rfl rfl rfl (OS.eqSt (us := E24.e u.Owner) (vs := E24.e x2) rfl (.inl ⟨rfl, rfl⟩) Tryz.eqGuardType24 rfl rfl (fun w => q24 9998 _ _ w) ?_)
  refine WR.k rfl rfl rfl (OS.assign (v := vB (decide (u.Owner = x2))) rfl rfl ?_)
  refine WR.nil ?_
  refine WC.ret ?_
  repeat first | refine thenQ_ret ?_ | refine blkQ_ret ?_
  cases hp
  exact fnQ.l1 (fn := Tryz.f55) rfl (.inl ⟨_, rfl, rfl⟩) ⟨_, rfl, s.leave hcw (by decide)⟩

-- maps.DeleteFunc[map[holdfast/grant.use]holdfast/api.Scopes,holdfast/grant.use,holdfast/api.Scopes]
set_option maxHeartbeats 4000000 in
theorem W53f55 (K : Nat) (w0 : World) (cw : Col) (hcw : ∀ b, cw b < 40) {m : List (S_grant_use × UInt8)} {cap : S_api_Owner} {r : (List (S_grant_use × UInt8))} (hp : api_Scopes_53_f55 K m cap = some r) {b : Nat} (o : Mp kv77 (VR.flat vv25) 3 w0 cw (.map (some b)) m) {i : Nat} (hi : i ≤ 1) {p_ : Value} (o1 : Bx i w0 cw p_ [vS cap.Tenant, vS cap.User]) :
    Calls Tryz.prog 53 [(.map (some b)), .func (.func 55) #[] [p_].toArray].toArray w0 fun e w1 => ∃ (d : Col), e = .returned (.tuple #[]) ∧ St [3] w0 cw w1 d ∧ Mp kv77 (VR.flat vv25) 3 w1 d (.map (some b)) r := by
  refine calls_intro Tryz.func53 rfl Tryz.ntmps53 rfl ?_
  unfold api_Scopes_53_f55 at hp
  refine WC.seq (WC.region ?_)
  refine WR.k rfl rfl rfl (OS.move (v := (.map (some b))) rfl rfl ?_)
  refine WR.k rfl rfl rfl (OS.range (c := cw) 40 rfl Tryz.runUnderlying67 rfl o ?_); intro p_1 w_ c_ o2 s
  refine WR.nil ?_
  obtain ⟨kf, hkf, hM⟩ := mrngK_name hp
  replace hM : Mqk (api_Scopes_53_f55.m1 K cap : S_grant_use × UInt8 → (List (S_grant_use × UInt8)) → Option (Lr Unit (List (S_grant_use × UInt8)))) m m kf := hM
  refine WC.blockJ2 (fun f_ w_1 => ∃ (m1 : List (S_grant_use × UInt8)) (c_1 : Col), kf (.go m1) ∧ f_ 0 = (.map (some b)) ∧ Mp kv77 (VR.flat vv25) 3 w_1 c_1 (.map (some b)) m1 ∧ St [3, 40, 41, 42, 43, 44] w_ c_ w_1 c_1) ?_ ?_
  · refine WC.loop (fun n => fun f_1 w_2 => ∃ (m1 : List (S_grant_use × UInt8)) (left : List (S_grant_use × UInt8)) (c_2 : Col), Mqk (api_Scopes_53_f55.m1 K cap : S_grant_use × UInt8 → (List (S_grant_use × UInt8)) → Option (Lr Unit (List (S_grant_use × UInt8)))) left m1 kf ∧ n = left.length ∧ f_1 0 = (.map (some b)) ∧ f_1 1 = .func (.func 55) #[] [p_].toArray ∧ f_1 7 = p_1 ∧ MpI kv77 (VR.flat vv25) 3 40 w_2 c_2 (.map (some b)) p_1 m1 left ∧ St [3, 40, 41, 42, 43, 44] w_ c_ w_2 c_2) m.length ⟨_, _, _, hM, rfl, rfl, rfl, rfl, o2, St.refl.mono (by decide)⟩ ?_
    rintro n f_1 w_2 ⟨m1, left, c_2, hM1, hn, h, h1, h2, o3, s1⟩
    refine WC.seq (WC.region ?_)
    refine WR.k rfl rfl rfl (OS.next rfl K77 h2 o3 (by decide) (by decide) (fun hl => ?_) (fun l k1 u l1 v_ w_3 hsp hnk hu o4 o5 s2 => ?_))
    · refine WR.k rfl rfl rfl (OS.extract (v := vB false) rfl rfl rfl ?_)
      refine WR.nil ?_
      refine WC.seq ?_
      refine WC.condF rfl ?_
      refine WC.exit ?_
      have o6 := o3.mp
      exact ⟨_, _, hM1.done hl, h, o6, s1.mono (by decide)⟩
    · obtain rfl := hu
      obtain ⟨b1, hb, hgo, hret⟩ := hM1.step hsp
      unfold api_Scopes_53_f55.m1 at hb
      dsimp only at hb
      refine WR.k rfl rfl rfl (OS.extract (v := vB true) rfl rfl rfl ?_)
      refine WR.nil ?_
      refine WC.seq ?_
      refine WC.condT rfl ?_
      refine WC.skip ?_
      refine WC.block ?_
      refine WC.seq (WC.region ?_)
      refine WR.k rfl rfl rfl (OS.entry rfl h2 o5 ?_)
      refine WR.k rfl rfl rfl (OS.extract (v := .agg (E77.e k1).toArray) rfl rfl rfl ?_)
      refine WR.k rfl rfl rfl (OS.extract (v := vU8 u) rfl rfl rfl ?_)
      refine WR.k rfl rfl rfl (OS.allocBx (us := [vS ([] : List UInt8), vS ([] : List UInt8), vS ([] : List UInt8)]) (c := c_2) 44 rfl Tryz.zeroValue77 rfl ?_); intro p_2 w_4 c_3 o7 s3
      refine WR.k0 rfl rfl (OS.stBxAll (v := .agg (E77.e k1).toArray) (ws := [vS k1.Owner.Tenant, vS k1.Owner.User, vS k1.client]) rfl Tryz.sizeOf77 rfl rfl rfl o7 rfl rfl (one_of rfl) ?_); intro w_5 o8 s4
      refine WR.k rfl rfl rfl (OS.assign (v := vU8 u) rfl rfl ?_)
      refine WR.nil ?_
      refine WC.seq (WC.region ?_)
      refine WR.k rfl rfl rfl (OS.move (v := .func (.func 55) #[] [p_].toArray) rfl h1 ?_)
      refine WR.k rfl rfl rfl (OS.ldN (us := [vS k1.Owner.Tenant, vS k1.Owner.User, vS k1.client]) rfl Tryz.isAgg77 Tryz.sizeOf77 rfl o8.ldAll rfl ?_)
      refine WR.k rfl rfl rfl (OS.move (v := vU8 u) rfl rfl ?_)
      have o9 := o1.keep ((((s.t s1).t s2).t s3).t s4) (nin hi (by decide))
      obtain ⟨r_, hr_, hb⟩ := bind_some hb
      refine WR.k rfl rfl rfl (OS.callClo (vs := [.agg (E77.e k1).toArray, vU8 u]) (cs := [p_]) rfl rfl ⟨rfl, rfl, trivial⟩ Tryz.call55 ((W55 (i := i) K w_5 (rcc [] c_3) (rcc_lt c_3 rfl) hr_ hi (o9.tr (rc_tr (rc_low hi rfl)))).mono ?_))
      rintro _ w_6 ⟨d1, rfl, s5⟩
      refine ⟨_, rfl, ?_⟩
      obtain ⟨c_4, s6⟩ : ∃ c_4, St [] w_5 c_3 w_6 c_4 := ⟨_, s5.mg2 (sh := 40000) rfl⟩
      refine WR.nil ?_
      refine WC.cond (r_) rfl (fun hb1 => ?_) (fun hb1 => ?_)
      · rw [if_pos hb1] at hb
        refine WC.region ?_
        refine WR.k rfl rfl rfl (OS.move (v := (.map (some b))) rfl h ?_)
        have o10 := o8.keep s6 (by decide)
        refine WR.k rfl rfl rfl (OS.ldN (us := [vS k1.Owner.Tenant, vS k1.Owner.User, vS k1.client]) rfl Tryz.isAgg77 Tryz.sizeOf77 rfl o10.ldAll rfl ?_)
        have o11 := o4.keep ((s3.t s4).t s6) (by decide) (by decide) (by decide)
        obtain ⟨m2, hm2, hb⟩ := bind_some hb
        replace hm2 := (Option.some.inj hm2).symm
        refine WR.k0 rfl rfl (OS.mapDelI (a := k1) rfl K77 Tryz.underlying67 rfl rfl o11 hnk (by decide) (by decide) ?_); intro w_7 o12 s7
        replace o12 : MpI kv77 (VR.flat vv25) 3 40 w_7 c_4 (.map (some b)) p_1 m2 (l ++ l1) := by rw [hm2]; exact o12
        refine WR.nil ?_
        cases hb
        exact ⟨(l ++ l1).length, (by rw [hn, hsp]; simp only [List.length_append, List.length_cons]; omega), ⟨_, _, _, hgo _ rfl, rfl, h, h1, h2, o12, (((((s1.t s2).t s3).t s4).t s6).t s7).mono (by decide)⟩⟩
      · rw [if_neg (nt hb1)] at hb
        refine WC.skip ?_
        cases hb
        have o13 := o4.keep ((s3.t s4).t s6) (by decide) (by decide) (by decide)
        exact ⟨(l ++ l1).length, (by rw [hn, hsp]; simp only [List.length_append, List.length_cons]; omega), ⟨_, _, _, hgo _ rfl, rfl, h, h1, h2, o13, ((((s1.t s2).t s3).t s4).t s6).mono (by decide)⟩⟩
  · rintro f_ w_1 ⟨m1, c_1, hq, h3, o3, s8⟩
    replace hp := hkf _ hq; simp only [lrc] at hp
    cases hp
    exact fnQ.lsN (fn := Tryz.f53) rfl ⟨_, rfl, (s.t s8).leave hcw (by decide), o3⟩

-- (*holdfast/grant.Store).DropUser
set_option maxHeartbeats 4000000 in
theorem W24 (K : Nat) (w0 : World) (cw : Col) (hcw : ∀ b, cw b < 40) {s : S_grant_Store} {o3 : S_api_Owner} {r : Int × S_grant_Store} (hp : grant_Store_DropUser K s o3 = some r) {b : Nat} {b1 : Nat} {p_ : Value} (o : Bx 3 w0 cw p_ [(.map (some b)), (.map (some b1))]) (o1 : Mp kv74 (VR.flat vv43) 4 w0 cw (.map (some b)) s.clients) (o2 : Mp kv77 (VR.flat vv25) 5 w0 cw (.map (some b1)) s.consents) :
    Calls Tryz.prog 24 [p_, .agg (E24.e o3).toArray].toArray w0 fun e w1 => ∃ (b2 : Nat) (b3 : Nat) (d : Col), e = .returned (vI r.1) ∧ St [3, 4, 5] w0 cw w1 d ∧ Bx 3 w1 d p_ [(.map (some b2)), (.map (some b3))] ∧ Mp kv74 (VR.flat vv43) 4 w1 d (.map (some b2)) r.2.clients ∧ Mp kv77 (VR.flat vv25) 5 w1 d (.map (some b3)) r.2.consents := by
  refine calls_intro Tryz.func24 rfl Tryz.ntmps24 rfl ?_
  unfold grant_Store_DropUser at hp
  refine WC.seq (WC.region ?_)
  refine WR.k rfl rfl rfl (OS.boxBx (us := [vS o3.Tenant, vS o3.User]) (c := cw) 40 rfl rfl rfl ?_); intro p_1 w_ c_ o4 s1
  refine WR.k rfl rfl rfl (OS.assign (v := vI (0 : Int)) rfl rfl ?_)
  refine WR.nil ?_
  refine WC.seq ?_
  refine WC.seq (WC.region ?_)
  refine WR.k rfl rfl rfl (OS.move (v := p_) rfl rfl ?_)
  have o5 := o.keep s1 (by decide)
  refine WR.k rfl rfl rfl (OS.eqPtrS rfl (.inl ⟨rfl, rfl⟩) Tryz.underlying28 rfl o5 rfl ?_)
  refine WR.nil ?_
  refine WC.condF rfl ?_
  refine WC.skip ?_
  refine WC.seq (WC.region ?_)
  refine WR.k rfl rfl rfl (OS.move (v := p_) rfl rfl ?_)
  refine WR.k rfl rfl rfl (OS.nilCheckBx rfl rfl o5 ?_)
  refine WR.k rfl rfl rfl (OS.fieldAddrBx rfl Tryz.runUnderlying69 rfl Tryz.sizeOf67 rfl rfl o5 ?_); intro p_2 a1
  refine WR.k rfl rfl rfl (OS.ld1 (u := (.map (some b1))) rfl Tryz.isAgg67 rfl (o5.ldn a1 (sub_of rfl)) ?_)
  have o6 := o2.keep s1 (by decide) (by decide)
  refine WR.k rfl rfl rfl (OS.lenMap rfl Tryz.runUnderlying67 rfl o6 ?_)
  refine WR.k rfl rfl rfl (OS.assign (v := vI (s.consents.length : Int)) rfl rfl ?_)
  refine WR.nil ?_
  refine WC.seq (WC.region ?_)
  refine WR.k rfl rfl rfl (OS.move (v := p_) rfl rfl ?_)
  refine WR.k rfl rfl rfl (OS.nilCheckBx rfl rfl o5 ?_)
  refine WR.k rfl rfl rfl (OS.fieldAddrBx rfl Tryz.runUnderlying69 rfl Tryz.sizeOf67 rfl rfl o5 ?_); intro p_3 a2
  refine WR.k rfl rfl rfl (OS.ld1 (u := (.map (some b1))) rfl Tryz.isAgg67 rfl (o5.ldn a2 (sub_of rfl)) ?_)
  refine WR.k rfl rfl rfl (OS.makeFunc (vs := [p_1]) rfl ⟨rfl, trivial⟩ ?_)
  obtain ⟨r_, hr_, hp⟩ := bind_some hp
  refine WR.k rfl rfl rfl (OS.callF (vs := [(.map (some b1)), .func (.func 55) #[] [p_1].toArray]) rfl ⟨rfl, rfl, trivial⟩ Tryz.call53 ((W53f55 (i := 0) K w_ (rcc [5] c_) (rcc_lt c_ rfl) hr_ (o6.tr (rc_tr (by decide))) (by decide) (o4.tr (rc_tr (by decide)))).mono ?_))
  rintro _ w_1 ⟨d1, rfl, s2, o7⟩
  refine ⟨_, rfl, ?_⟩
  obtain ⟨c_1, s3, o7⟩ : ∃ c_1, St [5] w_ c_ w_1 c_1 ∧ Mp kv77 (VR.flat vv25) 5 w_1 c_1 (.map (some b1)) r_ := ⟨_, s2.mg2 (sh := 10000) rfl, o7.tr (mg2_back s2 rfl)⟩
  refine WR.nil ?_
  refine WC.seq (WC.region ?_)
  refine WR.k rfl rfl rfl (OS.move (v := vI (s.consents.length : Int)) rfl rfl ?_)
  refine WR.k rfl rfl rfl (OS.move (v := p_) rfl rfl ?_)
  have o8 := o5.keep s3 (by decide)
  refine WR.k rfl rfl rfl (OS.nilCheckBx rfl rfl o8 ?_)
  refine WR.k rfl rfl rfl (OS.fieldAddrBx rfl Tryz.runUnderlying69 rfl Tryz.sizeOf67 rfl rfl o8 ?_); intro p_4 a3
  refine WR.k rfl rfl rfl (OS.ld1 (u := (.map (some b1))) rfl Tryz.isAgg67 rfl (o8.ldn a3 (sub_of rfl)) ?_)
  refine WR.k rfl rfl rfl (OS.lenMap rfl Tryz.runUnderlying67 rfl o7 ?_)
  refine WR.k rfl rfl rfl (OS.bin (a := vI (s.consents.length : Int)) (b := vI (r_.length : Int)) rfl rfl rfl bI_sub ?_)
  refine WR.k rfl rfl rfl (OS.assign (v := vI (W ((s.consents.length : Int) - (r_.length : Int)))) rfl rfl ?_)
  refine WR.nil ?_
  refine WC.ret ?_
  repeat first | refine thenQ_ret ?_ | refine blkQ_ret ?_
  cases hp
  have o9 := o1.keep (s1.t s3) (by decide) (by decide)
  exact fnQ.l1 (fn := Tryz.f24) rfl (.inl ⟨_, rfl, rfl⟩) ⟨_, _, _, rfl, (s1.t s3).leave hcw (by decide), o8, o9, o7⟩

-- slices.SortFunc[[]holdfast/api.Client,holdfast/api.Client]
theorem X57 (w0 : World) (a b : S_api_Client) : Calls Tryz.prog 57 #[.agg (E43.e a).toArray, .agg (E43.e b).toArray] w0 fun e w1 => e = .returned (vI (cmpS a.Name b.Name)) ∧ ∃ q os', w1 = Go.Sort.grow (w0.drewN q) os' := by
  refine calls_intro Tryz.func57 rfl Tryz.ntmps57 rfl ?_
  refine WC.seq (WC.region ?_)
  refine WR.k rfl rfl rfl (OS.boxG (us := [vS a.Tenant, vS a.Name, vS a.Redirect, vU8 a.Scopes]) (c := c0) 2 rfl rfl rfl ?_); intro p_ w_ c_ ob hw o s
  refine WR.k rfl rfl rfl (OS.boxG (us := [vS b.Tenant, vS b.Name, vS b.Redirect, vU8 b.Scopes]) (c := c_) 3 rfl rfl rfl ?_); intro p_1 w_1 c_1 ob1 hw1 o1 s1
  refine WR.k rfl rfl rfl (OS.assign (v := vI (0 : Int)) rfl rfl ?_)
  refine WR.nil ?_
  refine WC.seq (WC.region ?_)
  have o2 := o.keep s1 (by decide)
  refine WR.k rfl rfl rfl (OS.fieldAddrBx rfl Tryz.runUnderlying43 rfl Tryz.sizeOf9 rfl rfl o2 ?_); intro p_2 a2
  refine WR.k rfl rfl rfl (OS.ld1 (u := vS a.Name) rfl Tryz.isAgg9 rfl (o2.ldn a2 (sub_of rfl)) ?_)
  refine WR.k rfl rfl rfl (OS.fieldAddrBx rfl Tryz.runUnderlying43 rfl Tryz.sizeOf9 rfl rfl o1 ?_); intro p_3 a3
  refine WR.k rfl rfl rfl (OS.ld1 (u := vS b.Name) rfl Tryz.isAgg9 rfl (o1.ldn a3 (sub_of rfl)) ?_)
  refine WR.k rfl rfl rfl (OS.callF (vs := [vS a.Name, vS b.Name]) rfl ⟨rfl, rfl, trivial⟩ Tryz.call44 ((X44 w_1 a.Name b.Name).mono ?_))
  rintro _ w_2 ⟨rfl, rfl⟩
  refine ⟨_, rfl, ?_⟩
  refine WR.k rfl rfl rfl (OS.assign (v := vI (cmpS a.Name b.Name)) rfl rfl ?_)
  refine WR.nil ?_
  refine WC.ret ?_
  repeat first | refine thenQ_ret ?_ | refine blkQ_ret ?_
  exact fnQ.l1 (fn := Tryz.f57) rfl (.inl ⟨_, rfl, rfl⟩) ⟨rfl, 0, #[ob] ++ #[ob1], by rw [hw1, hw, Go.Sort.alloc_eq_grow, Go.Sort.alloc_eq_grow, Go.Sort.grow_grow]; rfl⟩
theorem W56f57 (K : Nat) (w0 : World) (cw : Col) (hcw : ∀ b, cw b < 40) {x : List S_api_Client} {r : List S_api_Client} (hp : api_Client_56_f57 K x = some r) {v : Value} (o : Ow E43 3 w0 cw v x) :
    Calls Tryz.prog 56 [v, .func (.func 57) #[] #[]].toArray w0 fun e w1 => ∃ (d : Col), e = .returned (.tuple #[]) ∧ St [3] w0 cw w1 d ∧ Ow E43 3 w1 d v r := by
  unfold api_Client_56_f57 at hp
  split at hp
  · rename_i h
    cases hp
    exact sort_calls Tryz.lays56 E43 Tryz.isAgg43 Tryz.sizeOf43 (fun (a b : S_api_Client) => cmpS a.Name b.Name) (swo_str fun a : S_api_Client => a.Name) 57 (fun args w => enters_of Tryz.func57 (by kernel_rfl) rfl args w) (fun x y W => X57 W x y) h o
  · cases hp

-- (*holdfast/grant.Store).Clients
set_option maxHeartbeats 4000000 in
theorem W26 (K : Nat) (w0 : World) (cw : Col) (hcw : ∀ b, cw b < 40) {s : S_grant_Store} {tenant : List UInt8} {r : (List S_api_Client)} (hp : grant_Store_Clients K s tenant = some r) {b : Nat} {b1 : Nat} {p_ : Value} (o : Bx 3 w0 cw p_ [(.map (some b)), (.map (some b1))]) (o1 : Mp kv74 (VR.flat vv43) 4 w0 cw (.map (some b)) s.clients) (o2 : Mp kv77 (VR.flat vv25) 5 w0 cw (.map (some b1)) s.consents) :
    Calls Tryz.prog 26 [p_, vS tenant].toArray w0 fun e w1 => ∃ (sl1 : Sl) (d : Col), e = .returned (sl1.val) ∧ St [] w0 cw w1 d ∧ Ow E43 2000 w1 d sl1.val r := by
  refine calls_intro Tryz.func26 rfl Tryz.ntmps26 rfl ?_
  unfold grant_Store_Clients at hp
  refine WC.seq (WC.region ?_)
  refine WR.k rfl rfl rfl (OS.assign (v := (.slice none 0 0)) rfl rfl ?_)
  refine WR.nil ?_
  refine WC.seq ?_
  refine WC.seq (WC.region ?_)
  refine WR.k rfl rfl rfl (OS.move (v := p_) rfl rfl ?_)
  refine WR.k rfl rfl rfl (OS.eqPtrS rfl (.inl ⟨rfl, rfl⟩) Tryz.underlying28 rfl o rfl ?_)
  refine WR.nil ?_
  refine WC.condF rfl ?_
  refine WC.skip ?_
  refine WC.seq (WC.region ?_)
  refine WR.k rfl rfl rfl (OS.assign (v := (.slice none 0 0)) rfl rfl ?_)
  refine WR.nil ?_
  refine WC.seq ?_
  refine WC.seq (WC.region ?_)
  refine WR.k rfl rfl rfl (OS.move (v := p_) rfl rfl ?_)
  refine WR.k rfl rfl rfl (OS.nilCheckBx rfl rfl o ?_)
  refine WR.k rfl rfl rfl (OS.fieldAddrBx rfl Tryz.runUnderlying69 rfl Tryz.sizeOf66 rfl rfl o ?_); intro p_1 a1
  refine WR.k rfl rfl rfl (OS.ld1 (u := (.map (some b))) rfl Tryz.isAgg66 rfl (o.ldn a1 (sub_of rfl)) ?_)
  refine WR.k rfl rfl rfl (OS.range (c := cw) 40 rfl Tryz.runUnderlying66 rfl o1 ?_); intro p_2 w_ c_ o3 s1
  refine WR.nil ?_
  obtain ⟨kf, hkf, hM⟩ := mrngK_name hp
  replace hM : Mqk (grant_Store_Clients.m1 K tenant : S_grant_name × S_api_Client → (List S_api_Client) → Option (Lr Unit (List S_api_Client))) s.clients ([] : List S_api_Client) kf := hM
  refine WC.blockJ2 (fun f_ w_1 => ∃ (out : List S_api_Client) (v_ : Value) (c_1 : Col), kf (.go out) ∧ f_ 0 = p_ ∧ f_ 5 = v_ ∧ Mp kv74 (VR.flat vv43) 4 w_1 c_1 (.map (some b)) s.clients ∧ Bx 3 w_1 c_1 p_ [(.map (some b)), (.map (some b1))] ∧ Ow E43 41 w_1 c_1 v_ out ∧ St [40, 41, 42, 43, 45, 46, 48, 49] w_ c_ w_1 c_1) ?_ ?_
  · have o7 := o.keep s1 (by decide)
    refine WC.loop (fun n => fun f_1 w_2 => ∃ (out : List S_api_Client) (left : List (S_grant_name × S_api_Client)) (v_ : Value) (c_2 : Col), Mqk (grant_Store_Clients.m1 K tenant : S_grant_name × S_api_Client → (List S_api_Client) → Option (Lr Unit (List S_api_Client))) left out kf ∧ n = left.length ∧ f_1 0 = p_ ∧ f_1 1 = vS tenant ∧ f_1 5 = v_ ∧ f_1 14 = p_2 ∧ MpI kv74 (VR.flat vv43) 4 40 w_2 c_2 (.map (some b)) p_2 s.clients left ∧ Bx 3 w_2 c_2 p_ [(.map (some b)), (.map (some b1))] ∧ Ow E43 41 w_2 c_2 v_ out ∧ St [40, 41, 42, 43, 45, 46, 48, 49] w_ c_ w_2 c_2) s.clients.length ⟨_, _, _, _, hM, rfl, rfl, rfl, rfl, rfl, o3, o7, Ow.nil, St.refl.mono (by decide)⟩ ?_
    rintro n f_1 w_2 ⟨out, left, v_, c_2, hM1, hn, h, h1, h2, h3, o5, o4, o6, s2⟩
    refine WC.seq (WC.region ?_)
    refine WR.k rfl rfl rfl (OS.next rfl K74 h3 o5 (by decide) (by decide) (fun hl => ?_) (fun l k1 u l1 v_1 w_3 hsp hnk hu o8 o9 s3 => ?_))
    · refine WR.k rfl rfl rfl (OS.extract (v := vB false) rfl rfl rfl ?_)
      refine WR.nil ?_
      refine WC.seq ?_
      refine WC.condF rfl ?_
      refine WC.exit ?_
      have o10 := o5.mp
      exact ⟨_, _, _, hM1.done hl, h, h2, o10, o4, o6, s2.mono (by decide)⟩
    · obtain rfl := hu
      obtain ⟨b2, hb, hgo, hret⟩ := hM1.step hsp
      unfold grant_Store_Clients.m1 at hb
      dsimp only at hb
      refine WR.k rfl rfl rfl (OS.extract (v := vB true) rfl rfl rfl ?_)
      refine WR.nil ?_
      refine WC.seq ?_
      refine WC.condT rfl ?_
      refine WC.skip ?_
      refine WC.block ?_
      refine WC.seq (WC.region ?_)
      refine WR.k rfl rfl rfl (OS.entry rfl h3 o9 ?_)
      refine WR.k rfl rfl rfl (OS.extract (v := .agg (E74.e k1).toArray) rfl rfl rfl ?_)
      refine WR.k rfl rfl rfl (OS.extract (v := .agg (E43.e u).toArray) rfl rfl rfl ?_)
      refine WR.k rfl rfl rfl (OS.allocBx (us := [vS ([] : List UInt8), vS ([] : List UInt8)]) (c := c_2) 48 rfl Tryz.zeroValue74 rfl ?_); intro p_3 w_4 c_3 o11 s4
      refine WR.k rfl rfl rfl (OS.allocBx (us := [vS ([] : List UInt8), vS ([] : List UInt8), vS ([] : List UInt8), vU8 (0 : UInt8)]) (c := c_3) 49 rfl Tryz.zeroValue43 rfl ?_); intro p_4 w_5 c_4 o12 s5
      have o13 := o11.keep s5 (by decide)
      refine WR.k0 rfl rfl (OS.stBxAll (v := .agg (E74.e k1).toArray) (ws := [vS k1.tenant, vS k1.name]) rfl Tryz.sizeOf74 rfl rfl rfl o13 rfl rfl (one_of rfl) ?_); intro w_6 o14 s6
      have o15 := o12.keep s6 (by decide)
      refine WR.k0 rfl rfl (OS.stBxAll (v := .agg (E43.e u).toArray) (ws := [vS u.Tenant, vS u.Name, vS u.Redirect, vU8 u.Scopes]) rfl Tryz.sizeOf43 rfl rfl rfl o15 rfl rfl (one_of rfl) ?_); intro w_7 o16 s7
      refine WR.nil ?_
      refine WC.seq (WC.region ?_)
      have o17 := o14.keep s7 (by decide)
      refine WR.k rfl rfl rfl (OS.fieldAddrBx rfl Tryz.runUnderlying74 rfl Tryz.sizeOf9 rfl rfl o17 ?_); intro p_5 a2
      refine WR.k rfl rfl rfl (OS.ld1 (u := vS k1.tenant) rfl Tryz.isAgg9 rfl (o17.ldn a2 (sub_of rfl)) ?_)
      refine WR.k rfl rfl rfl (OS.move (v := vS tenant) rfl h1 ?_)
      refine WR.k rfl rfl rfl (OS.bin (a := vS k1.tenant) (b := vS tenant) rfl rfl rfl bS_eql ?_)
      refine WR.nil ?_
      refine WC.cond (decide (k1.tenant = tenant)) rfl (fun hb1 => ?_) (fun hb1 => ?_)
      · rw [if_pos hb1] at hb
        refine WC.region ?_
        refine WR.k rfl rfl rfl (OS.move (v := v_) rfl h2 ?_)
        refine WR.k rfl rfl rfl (OS.ldN (us := [vS u.Tenant, vS u.Name, vS u.Redirect, vU8 u.Scopes]) rfl Tryz.isAgg43 Tryz.sizeOf43 rfl o16.ldAll rfl ?_)
        obtain ⟨l2, hl2, hb⟩ := bind_some hb
        replace hl2 := (Option.some.inj hl2).symm
        refine WR.k rfl rfl rfl (OS.bslice (E := E43) (c := c_4) 50 ([u] : List S_api_Client) [(0, .agg (E43.e u).toArray)] rfl ⟨rfl, rfl, trivial⟩ (fun _ => by kernel_rfl) rfl (by decide) ?_); intro v_2 w_8 c_5 o18 s8
        replace o18 : Ow E43 50 w_8 c_5 v_2 l2 := by rw [hl2]; exact o18
        have o19 := o6.keep (((((s3.t s4).t s5).t s6).t s7).t s8) (by decide)
        obtain ⟨out1, hout1, hb⟩ := bind_some hb
        obtain ⟨ha, hout1⟩ := app_some hout1
        refine WR.k rfl rfl rfl (OS.append (E := E43) (c := c_5) (i := 41) (xs := out) (ys := l2) rfl Tryz.underlying56 Tryz.underlying56 (.inl rfl) I43 rfl rfl rfl rfl rfl o19 o18.vw.src (lim_bytes (by decide) ha) (lim_max (b := 56) (by decide) ha) ?_); intro v_3 w_9 c_6 o20 s9
        replace o20 : Ow E43 41 w_9 c_6 v_3 out1 := by rw [hout1]; exact o20
        refine WR.k rfl rfl rfl (OS.assign (v := v_3) rfl rfl ?_)
        refine WR.nil ?_
        cases hb
        have o21 := o8.keep (((((s4.t s5).t s6).t s7).t s8).t s9) (by decide) (by decide) (by decide)
        have o22 := o4.keep ((((((s3.t s4).t s5).t s6).t s7).t s8).t s9) (by decide)
        exact ⟨(l ++ l1).length, (by rw [hn, hsp]; simp only [List.length_append, List.length_cons]; omega), ⟨_, _, _, _, hgo _ rfl, rfl, h, h1, rfl, h3, o21, o22, o20, (((((((s2.t s3).t s4).t s5).t s6).t s7).t s8).t s9).mono (by decide)⟩⟩
      · rw [if_neg (nt hb1)] at hb
        refine WC.skip ?_
        cases hb
        have o23 := o8.keep (((s4.t s5).t s6).t s7) (by decide) (by decide) (by decide)
        have o24 := o4.keep ((((s3.t s4).t s5).t s6).t s7) (by decide)
        have o25 := o6.keep ((((s3.t s4).t s5).t s6).t s7) (by decide)
        exact ⟨(l ++ l1).length, (by rw [hn, hsp]; simp only [List.length_append, List.length_cons]; omega), ⟨_, _, _, _, hgo _ rfl, rfl, h, h1, h2, h3, o23, o24, o25, (((((s2.t s3).t s4).t s5).t s6).t s7).mono (by decide)⟩⟩
  · rintro f_ w_1 ⟨out, v_, c_1, hq, h4, h5, o5, o4, o6, s10⟩
    replace hp := hkf _ hq; simp only [lrc] at hp
    refine WC.seq (WC.region ?_)
    refine WR.k rfl rfl rfl (OS.move (v := v_) rfl h5 ?_)
    obtain ⟨r_, hr_, hp⟩ := bind_some hp
    refine WR.k rfl rfl rfl (OS.callF (vs := [v_, .func (.func 57) #[] #[]]) rfl ⟨rfl, rfl, trivial⟩ Tryz.call56 ((W56f57 K w_1 (rcc [41] c_1) (rcc_lt c_1 rfl) hr_ (o6.tr (rc_tr (by decide)))).mono ?_))
    rintro _ w_10 ⟨d1, rfl, s11, o26⟩
    refine ⟨_, rfl, ?_⟩
    obtain ⟨c_7, s12, o26⟩ : ∃ c_7, St [41] w_1 c_1 w_10 c_7 ∧ Ow E43 41 w_10 c_7 v_ r_ := ⟨_, s11.mg2 (sh := 10000) rfl, o26.tr (mg2_back s11 rfl)⟩
    refine WR.nil ?_
    refine WC.seq (WC.region ?_)
    refine WR.k rfl rfl rfl (OS.move (v := v_) rfl h5 ?_)
    refine WR.k rfl rfl rfl (OS.assign (v := v_) rfl rfl ?_)
    refine WR.nil ?_
    refine WC.ret ?_
    repeat first | refine thenQ_ret ?_ | refine blkQ_ret ?_
    obtain ⟨sl, e1⟩ := isSlv o26.isSl; subst e1
    cases hp
    obtain ⟨c_8, s13, o27⟩ := o26.recol 2000
    exact fnQ.l1 (fn := Tryz.f26) rfl (.inl ⟨_, rfl, rfl⟩) ⟨_, _, rfl, (((s1.t s10).t s12).t s13).leave hcw (by decide), o27⟩
end Go.Proofs.YtjgbakieogadfaaGreatDoor
