/-
  LeadBinds: what a vote binds is never unbound, but by one of a greater ballot. The walk.
-/
import Derived.Test.YtlichkheakjkhaaBindsA
import Derived.Test.YtlichkheakjkhaaBindsB
import Derived.Test.YtlichkheakjkhaaBindsP
import Derived.Test.YtlichkheakjkhaaBindsC
import Derived.Test.YtlichkheakjkhaaBindsD
namespace Go.Proofs.Ytlichkheakjkhaa
open Go Go.RowKit

set_option maxHeartbeats 8000000 in
set_option maxRecDepth 100000 in
theorem binds_walk (w : World) (v : Value) (ds : List DoD) (hv : Dos w v ds) (hw : ∀ d ∈ ds, d.Wf) : Calls Try.prog 3 #[v] w (TruePost w) := by
  have hmm := @run_makeMap Try.prog
  rcases hv with ⟨rfl, va, vc, rfl, _⟩ | ⟨vb, vo, vc, rfl, hlen, hcap, hel⟩
  · --{G
    clear hw
    go_enter Try.func3, Try.ntmps3
    go_wp2_with fail
    refine (new_any 9 1 _ rfl).mono ?_
    rintro e w1 ⟨b, m1, m2, m3, rfl, hT, l0, l1, l2, l3, hu⟩
    have HT := Lib.hid hT; clear hT
    have HU := Lib.hid hu; clear hu
    go_wp2_with fail
    refine wp_loop_rounds 1 ?_
    rw [rounds_succ]
    go_wp2_with fail
    refine (next_any _ b m1 m2 m3 9 1 [] [] [] (by omega) (HT.out.old ((Upd.refl _ _).alloc _)) (by omega) (by omega) (by intro p hp; cases hp) (by intro p hp; cases hp)).mono ?_
    rintro e w' ⟨last, ⟨hmx, _⟩, rfl, hu'⟩
    have hn : 1 ≤ min last 9223372036854775806 + 1 := by omega
    generalize min last 9223372036854775806 + 1 = n at hn
    clear hmx
    have HU' := Lib.hid (((Upd.refl (fun _ => False) w1).alloc _).trans hu'); clear hu'
    go_wp2_with (go_at_call 13; refine (ballot_any _ b m1 m2 m3 9 1 [] [] [] (HT.out.old HU'.out)).mono ?_; rintro e w2 ⟨rfl, rfl⟩)
    go_ret
    exact ⟨rfl, HU.out.trans HU'.out⟩
    --}G
  · have HE := Lib.hid hel; clear hel
    have HW := Lib.hid hw; clear hw
    go_enter Try.func3, Try.ntmps3
    go_wp2_with fail
    refine (new_any 9 1 _ rfl).mono ?_
    rintro e w1 ⟨b, m1, m2, m3, rfl, hT, l0, l1, l2, l3, hu⟩
    have HT := Lib.hid hT; clear hT
    have HU := Lib.hid hu; clear hu
    have hsz := HU.out.size
    have hlts := HT.out.lts
    have hLo : Lo w b m1 m2 m3 w1.heap.size := ⟨⟨by omega, by omega, by omega⟩, ⟨l0, l1, l2, l3, hsz⟩⟩
    have hstart : Inv w ds b m1 m2 m3 w1.heap.size 0 (fun _ => none) [] [] [] (w1.alloc (.map #[] 0)) :=
      ⟨HT.out.old ((Upd.refl _ _).alloc _), fun _ => rfl, by simp [go_sem], fun n => rfl, fun _ => rfl, fun _ h => absurd rfl h, HU.out.alloc _⟩
    have HST := Lib.hid hstart; clear hstart hsz hlts
    go_wp2_with fail
    go_loopw [32] (fun i wr => InvEx w ds b m1 m2 m3 w1.heap.size i wr) (fun i _ => ds.length - (intOf i).toNat)
    case atStart => exact ⟨0, _, _, _, _, Nat.zero_le _, rfl, HST.out⟩
    case round =>
      obtain ⟨k, f, P, B, S, hk, rfl, hI⟩ := hrel
      have HI := Lib.hid hI; clear hI
      by_cases hlt : k < ds.length
      · by_cases h16 : 16 < k
        · --{E
          obtain ⟨nv, vv, hnv, hvv, hc⟩ := HE.out k hlt
          generalize hd : ds.getD k default = d at hnv hvv hc
          clear hd
          obtain ⟨na, nc, rfl⟩ := hnv.shape
          obtain ⟨va, vc', rfl⟩ := hvv.shape
          clear hnv hvv
          have hvb : vb < w.heap.size := by have := World.block_lt_of_cell? _ _ (hc 0 (by omega)); simpa using this
          obtain ⟨d0, d1, d2, d3, d4, d5, d6, d7, d8, d9, d10, d11, d12, d13, d14, d15⟩ := do_cells (w := wr) (fun j hj => (HI.out.up.cell (p := ⟨vb, vo + k * 16 + j, none⟩) hvb (fun h => h)).trans (hc j hj))
          clear hc
          go_wp2_with fail
          refine (next_any _ b m1 m2 m3 9 1 P B [] (by omega) (HI.out.try_.old ((Upd.refl _ _).alloc _)) (by omega) (by omega) HI.out.smallB (by intro p hp; cases hp)).mono ?_
          rintro e w' ⟨last, ⟨hmx, _⟩, rfl, hu'⟩
          have hn : 1 ≤ min last 9223372036854775806 + 1 := by omega
          generalize min last 9223372036854775806 + 1 = n at hn
          clear hmx
          have HU' := Lib.hid (((Upd.refl (fun _ => False) wr).alloc _).trans hu'); clear hu'
          go_wp2_with (go_at_call 13; refine (ballot_any _ b m1 m2 m3 9 1 P B [] (HI.out.try_.old HU'.out)).mono ?_; rintro e w2 ⟨rfl, rfl⟩)
          go_ret
          exact ⟨rfl, HI.out.up.trans HU'.out⟩
          --}E
        · obtain ⟨nv, vv, hnv, hvv, hc⟩ := HE.out k hlt
          have hdm : ds.getD k default ∈ ds := by
            rw [List.getD_eq_getElem?_getD, List.getElem?_eq_getElem hlt]; exact List.getElem_mem hlt
          have hdw := HW.out _ hdm
          generalize hd : ds.getD k default = d at hnv hvv hc hdm hdw
          have hsl := Lib.hid hd; clear hd
          have HD := Lib.hid hdw; clear hdw
          have HDM := Lib.hid hdm; clear hdm
          obtain ⟨na, nc, rfl⟩ := hnv.shape
          obtain ⟨va, vc', rfl⟩ := hvv.shape
          have HN := Lib.hid hnv; clear hnv
          have HV := Lib.hid hvv; clear hvv
          have hvb : vb < w.heap.size := by have := World.block_lt_of_cell? _ _ (hc 0 (by omega)); simpa using this
          obtain ⟨d0, d1, d2, d3, d4, d5, d6, d7, d8, d9, d10, d11, d12, d13, d14, d15⟩ := do_cells (w := wr) (fun j hj => (HI.out.up.cell (p := ⟨vb, vo + k * 16 + j, none⟩) hvb (fun h => h)).trans (hc j hj))
          clear hc
          have lw : w.heap.size ≤ wr.heap.size := HI.out.up.size
          obtain ⟨wo, rfl⟩ : ∃ wo : World, wo = wr := ⟨_, rfl⟩
          go_upto_block 2 with (fail)
          go_cut [8] (fun v wc => CutA wo d v wc)
          case first =>
            rename_i hJ hK2
            refine secA w wo d va vc' _ _ _ _ _ _ _ _ _ _ _ _ _ _ _ _ _ _ _ _ _ _ _ _ _ _ _ _ _ _ _ _ _ _ _ _ _ _ _ _ _ _ _ _ _ _ _ _ _ _ _ _ _ _ _ _ _ _ _ _ _ _ _ _ _ _ _ _ _ _ _ _ _ _ _ _ _ _ _ _ _ _ _ _ _ _ _ _ _ _ _ _ _ _ _ _ _ _ _ _ _ _ _ _ _ _ _ _ _ _ _ _ _ _ _ _ _ _ _ _ _ _ _ _ _ _ _ _ _ _ _ _ _ _ _ _ _ _ _ _ _ _ _ _ _ _ _ _ _ _ _ _ _ _ _ _ HV HD (Lib.hid HI.out.up) (by rfl) ?_
            intros
            refine hK2 _ _ (hJ _ _ ?_)
            (repeat apply Exists.intro)
            exact ⟨by assumption, rfl⟩
          case rest =>
            clear d0 d1 d2 d3 d4 d5 d6 d7 d8 d9 d10 d11 d12 d13 d14 d15
            have HA := Lib.hid hcut; clear hcut
            go_upto_block 4 with (fail)
            go_cut [11] (fun fr wc => CutB wo d (ds.take k) fr u8 wc)
            case first =>
              rename_i hJ hK2
              refine secB w wo wc ds d vb vo vc k _ _ _ _ _ _ _ _ _ _ _ _ _ _ _ _ _ _ _ _ _ _ _ _ _ _ _ _ _ _ _ _ _ _ _ _ _ _ _ _ _ _ _ _ _ _ _ _ _ _ _ _ _ _ _ _ _ _ _ _ _ _ _ _ _ _ _ _ _ _ _ _ _ _ _ _ _ _ _ _ _ _ _ _ _ _ _ _ _ _ _ _ _ _ _ _ _ _ _ _ _ _ _ _ _ _ _ _ _ _ _ _ _ _ _ _ _ _ _ _ _ _ _ _ _ _ _ _ _ _ _ _ _ _ _ _ _ _ _ _ _ _ _ _ _ _ _ _ _ _ _ _ _ _ _ HE hlen hcap hvb hlt (Lib.hid HI.out.up) HA ?_
              intros
              refine hK2 _ _ (hJ _ _ ?_)
              (repeat apply Exists.intro)
              exact ⟨by assumption, rfl⟩
            case rest =>
              --{R
              clear HA
              have HB := Lib.hid hcut; clear hcut
              go_upto_region 24 with (fail)
              go_cut [11, 93] (fun _ c wc => CutP w wo ds b m1 m2 m3 w1.heap.size k d f S u8 c wc)
              case first =>
                rename_i hJ hK2
                refine secP w wo wc ds d b m1 m2 m3 w1.heap.size k f P B S _ _ _ _ _ _ _ _ _ _ _ _ _ _ _ _ _ _ _ _ _ _ _ _ _ _ _ _ _ _ _ _ _ _ _ _ _ _ _ _ _ _ _ _ _ _ _ _ _ _ _ _ _ _ _ _ _ _ _ _ _ _ _ _ _ _ _ _ _ _ _ _ _ _ _ _ _ _ _ _ _ _ _ _ _ _ _ _ _ _ _ _ _ _ _ _ _ _ _ _ _ _ _ _ _ _ _ _ _ _ _ _ _ _ _ _ _ _ _ _ _ _ _ _ _ _ _ _ _ _ _ _ _ _ _ _ _ _ _ _ _ _ _ _ _ _ _ _ _ _ _ _ _ _ _ _ _ _ hLo hlt hsl HI HB ?_
                intros
                refine hK2 _ _ (hJ _ _ ?_)
                (repeat apply Exists.intro)
                exact ⟨by assumption, rfl⟩
              case rest =>
                have HP := Lib.hid hcut; clear hcut
                clear HB
                go_upto_if 93 with (fail)
                go_cut [] (fun wc => CutC w ds b m1 m2 m3 w1.heap.size k wc)
                case first =>
                  rename_i hJ hK2
                  refine secC w wo wc ds d b m1 m2 m3 w1.heap.size k f P B S _ _ _ _ _ _ _ _ _ _ _ _ _ _ _ _ _ _ _ _ _ _ _ _ _ _ _ _ _ _ _ _ _ _ _ _ _ _ _ _ _ _ _ _ _ _ _ _ _ _ _ _ _ _ _ _ _ _ _ _ _ _ _ _ _ _ _ _ _ _ _ _ _ _ _ _ _ _ _ _ _ _ _ _ _ _ _ _ _ _ _ _ _ _ _ _ _ _ _ _ _ _ _ _ _ _ _ _ _ _ _ _ _ _ _ _ _ _ _ _ _ _ _ _ _ _ _ _ _ _ _ _ _ _ _ _ _ _ _ _ _ _ _ _ _ _ _ _ _ _ _ _ _ _ _ _ _ _ _ hLo HD HI HP ?_
                  intros
                  refine hK2 _ _ (hJ _ _ ?_)
                  (repeat apply Exists.intro)
                  exact ⟨by assumption, rfl⟩
                case rest =>
                  clear HP
                  clear HI HV HN hsl HD HDM
                  go_upto_block 8 with (fail)
                  refine secD w wc ds b m1 m2 m3 w1.heap.size k _ _ _ _ _ _ _ _ _ _ _ _ _ _ _ _ _ _ _ _ _ _ _ _ _ _ _ _ _ _ _ _ _ _ _ _ _ _ _ _ _ _ _ _ _ _ _ _ _ _ _ _ _ _ _ _ _ _ _ _ _ _ _ _ _ _ _ _ _ _ _ _ _ _ _ _ _ _ _ _ _ _ _ _ _ _ _ _ _ _ _ _ _ _ _ _ _ _ _ _ _ _ _ _ _ _ _ _ _ _ _ _ _ _ _ _ _ _ _ _ _ _ _ _ _ _ _ _ _ _ _ _ _ _ _ _ _ _ _ _ _ _ _ _ _ _ _ _ _ _ _ _ _ _ _ _ hcut ?_
                  intro u2 u18 u19 u20 u21 u22 u121 u122 u123 u124 u125 u126 u127 u128 u129 u130 u131 u132 u133 u134 u135 u136 u137 u138 u139 u140 u141 u142 u143 u144 u145 u146 u147 u148 w9 hcut9
                  obtain ⟨f', P', B', S', hI⟩ := hcut9
                  have HI' := Lib.hid hI; clear hI hcut
                  go_wp2_with fail
                  go_roundw
                  case rel => exact ⟨k + 1, f', P', B', S', hlt, by go_num, HI'.out⟩
                  case measure => simp [intOf]; omega
              --}R
      · --{F
        go_wp2_with fail
        refine (next_any wr b m1 m2 m3 9 1 P B [] (by omega) HI.out.try_ (by omega) (by omega) HI.out.smallB (by intro p hp; cases hp)).mono ?_
        rintro e w' ⟨last, ⟨hmx, _⟩, rfl, hu'⟩
        have hn : 1 ≤ min last 9223372036854775806 + 1 := by omega
        generalize min last 9223372036854775806 + 1 = n at hn
        clear hmx
        have HU' := Lib.hid hu'; clear hu'
        go_wp2_with (go_at_call 13; refine (ballot_any _ b m1 m2 m3 9 1 P B [] (HI.out.try_.old HU'.out)).mono ?_; rintro e w2 ⟨rfl, rfl⟩)
        go_ret
        exact ⟨rfl, HI.out.up.trans HU'.out⟩
        --}F
end Go.Proofs.Ytlichkheakjkhaa
