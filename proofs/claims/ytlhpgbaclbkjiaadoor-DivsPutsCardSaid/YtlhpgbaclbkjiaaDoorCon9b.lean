/- What the program's functions come to: printed by a program, checked by Lean. No condition. -/
import Derived.Test.YtlhpgbaclbkjiaaDoorCon9a
set_option maxRecDepth 4000
set_option synthInstance.maxHeartbeats 2000000
set_option synthInstance.maxSize 100000
set_option linter.unusedVariables false
namespace Go.Cellar
open Go

theorem cellarerref09_Put_con {l_758 : List (List UInt8 × List UInt8 × List UInt8)} {x_759 : List UInt8} {x_760 : List UInt8} {x_761 : List UInt8} {r : List (List UInt8 × List UInt8 × List UInt8)} (h : cellarerref09_Put l_758 x_759 x_760 x_761 = some r) : Con Go.Proofs.Tryd.prog 23 [AV.list (Ty.prod Ty.str (Ty.prod Ty.str Ty.str)) l_758 Bool.false, AV.agg [AV.str x_759, AV.str x_760, AV.str x_761]] [] (cellarerref09_Put_res r) (cellarerref09_Put_out r) := by
  refine W.con (by kernel_rfl) ?_
  unfold cellarerref09_Put at h
  refine W.bind h fun a_762 ha_762 h => ?_
  refine W.call 0 100000 (by kernel_rfl) (cellarerref09_Find_con ha_762) (by kernel_rfl) ?_
  refine W.at 0 100000 [Co.own 5 (Ty.prod Ty.str (Ty.prod Ty.str Ty.str))] [0, 3, 5, 6, 7, 8] (c' := (fun (s_792 : Bool × Int × List (List UInt8 × List UInt8 × List UInt8)) => (Cfg.mk Mode.run (headTodo Go.Proofs.Tryd.prog 23 0) (St.mk [AV.list (Ty.prod Ty.str (Ty.prod Ty.str Ty.str)) l_758 Bool.false, jj, jj, AV.ptr (0 : Nat) (0 : Nat), jj, AV.view (1 : Nat) (0 : Nat) Option.none, AV.int IntKind.i64 a_762, AV.bool (Prod.fst s_792), AV.int IntKind.i64 (Prod.fst (Prod.snd s_792)), jj, jj, jj, jj, jj, jj, jj, jj, jj, jj, jj, jj, jj, jj, jj, jj, jj, jj, jj, jj, jj, jj, jj, jj, jj, jj, jj, jj, jj, jj, jj, jj, jj, jj, jj, jj, jj, jj, jj, jj, jj, jj, jj, jj, jj, jj, jj, jj, jj] [AO.box [AV.str x_759, AV.str x_760, AV.str x_761], AO.row (Ty.prod Ty.str (Ty.prod Ty.str Ty.str)) (Prod.snd (Prod.snd s_792))] (0 : Nat)))) (Decidable.decide ((0 : Int) ≤ a_762), (0 : Int), [])) (by kernel_rfl) ?_
  refine W.loop (fun (s_792 : Bool × Int × List (List UInt8 × List UInt8 × List UInt8)) => (Cfg.mk Mode.run (headTodo Go.Proofs.Tryd.prog 23 0) (St.mk [AV.list (Ty.prod Ty.str (Ty.prod Ty.str Ty.str)) l_758 Bool.false, jj, jj, AV.ptr (0 : Nat) (0 : Nat), jj, AV.view (1 : Nat) (0 : Nat) Option.none, AV.int IntKind.i64 a_762, AV.bool (Prod.fst s_792), AV.int IntKind.i64 (Prod.fst (Prod.snd s_792)), jj, jj, jj, jj, jj, jj, jj, jj, jj, jj, jj, jj, jj, jj, jj, jj, jj, jj, jj, jj, jj, jj, jj, jj, jj, jj, jj, jj, jj, jj, jj, jj, jj, jj, jj, jj, jj, jj, jj, jj, jj, jj, jj, jj, jj, jj, jj, jj, jj] [AO.box [AV.str x_759, AV.str x_760, AV.str x_761], AO.row (Ty.prod Ty.str (Ty.prod Ty.str Ty.str)) (Prod.snd (Prod.snd s_792))] (0 : Nat)))) (fun t_787 => Walk Go.Proofs.Tryd.prog 23 (Cfg.mk Mode.run ((headTodo Go.Proofs.Tryd.prog 23 0).drop 3) (St.mk [jj, jj, jj, AV.ptr (0 : Nat) (0 : Nat), jj, AV.view (1 : Nat) (0 : Nat) Option.none, jj, AV.bool (Prod.fst t_787), jj, jj, jj, jj, jj, jj, jj, jj, jj, jj, jj, jj, jj, jj, jj, jj, jj, jj, jj, jj, jj, jj, jj, jj, jj, jj, jj, jj, jj, jj, jj, jj, jj, jj, jj, jj, jj, jj, jj, jj, jj, jj, jj, jj, jj, jj, jj, jj, jj, jj] [AO.box [AV.str x_759, AV.str x_760, AV.str x_761], AO.row (Ty.prod Ty.str (Ty.prod Ty.str Ty.str)) (Prod.snd t_787)] (0 : Nat))) (cellarerref09_Put_res r) (cellarerref09_Put_out r)) h (fun t_787 h => ?_) (fun s_792 x789 h789 K789 => ?_)
  ·
    refine W.cond 0 100000 h (by kernel_rfl) (fun h => ?_) (fun h => ?_)
    ·
      refine W.needT 0 100000 h (by kernel_rfl) (fun h => ?_)
      exact W.retT 0 100000 h (by kernel_rfl)
    ·
      exact W.retT 0 100000 h (by kernel_rfl)
  · unfold cellarerref09_Put_b0 at h789
    refine W.cond 2 100000 h789 (by kernel_rfl) (fun h789 => ?_) (fun h789 => ?_)
    ·
      refine W.join (fun t_783 => Walk Go.Proofs.Tryd.prog 23 (Cfg.mk Mode.run (seqTodo Go.Proofs.Tryd.prog 23 9) (St.mk [AV.list (Ty.prod Ty.str (Ty.prod Ty.str Ty.str)) l_758 Bool.false, jj, jj, AV.ptr (0 : Nat) (0 : Nat), jj, AV.view (1 : Nat) (0 : Nat) Option.none, AV.int IntKind.i64 a_762, AV.bool (Prod.fst t_783), AV.int IntKind.i64 (Prod.fst (Prod.snd s_792)), jj, jj, jj, jj, jj, jj, jj, jj, jj, jj, jj, jj, jj, jj, jj, jj, jj, jj, jj, jj, jj, jj, jj, jj, jj, jj, jj, jj, jj, jj, jj, jj, jj, jj, jj, jj, jj, jj, jj, jj, jj, jj, jj, jj, jj, jj, jj, jj, jj] [AO.box [AV.str x_759, AV.str x_760, AV.str x_761], AO.row (Ty.prod Ty.str (Ty.prod Ty.str Ty.str)) (Prod.snd t_783)] (0 : Nat))) (cellarerref09_Put_res r) (cellarerref09_Put_out r)) h789 (fun t_783 h789 => ?_) (fun t785 h785 K785 => ?_)
      ·
        refine W.cond 2 100000 h789 (by kernel_rfl) (fun h789 => ?_) (fun h789 => ?_)
        ·
          refine W.needT 2 100000 h789 (by kernel_rfl) (fun h789 => ?_)
          cases h789; exact W.at 2 100000 [Co.own 5 (Ty.prod Ty.str (Ty.prod Ty.str Ty.str))] [0, 3, 5, 6, 7, 8] (by kernel_rfl) K789
        ·
          refine W.needT 2 100000 h789 (by kernel_rfl) (fun h789 => ?_)
          refine W.needT 2 100000 h789 (by kernel_rfl) (fun h789 => ?_)
          cases h789; exact W.at 2 100000 [Co.own 5 (Ty.prod Ty.str (Ty.prod Ty.str Ty.str))] [0, 3, 5, 6, 7, 8] (by kernel_rfl) K789
      · refine W.next 2 4 (by kernel_rfl) ?_
        refine W.cond 6 100000 h785 (by kernel_rfl) (fun h785 => ?_) (fun h785 => ?_)
        ·
          refine W.yes 6 100000 (by kernel_rfl) ?_
          refine W.yes 6 100000 (by kernel_rfl) ?_
          refine W.needT 6 100000 h785 (by kernel_rfl) (fun h785 => ?_)
          refine W.yes 6 100000 (by kernel_rfl) ?_
          refine W.yes 6 100000 (by kernel_rfl) ?_
          refine W.yes 6 100000 (by kernel_rfl) ?_
          refine W.yes 6 100000 (by kernel_rfl) ?_
          refine W.yes 6 100000 (by kernel_rfl) ?_
          refine W.yes 6 100000 (by kernel_rfl) ?_
          refine W.cond 6 100000 h785 (by kernel_rfl) (fun h785 => ?_) (fun h785 => ?_)
          ·
            refine W.needT 6 100000 h785 (by kernel_rfl) (fun h785 => ?_)
            cases h785; exact W.at 6 100000 [] [0, 3, 5, 6, 7, 8] (by kernel_rfl) K785
          ·
            cases h785; exact W.at 6 100000 [] [0, 3, 5, 6, 7, 8] (by kernel_rfl) K785
        ·
          refine W.no 6 100000 (by kernel_rfl) ?_
          refine W.no 6 100000 (by kernel_rfl) ?_
          refine W.no 6 100000 (by kernel_rfl) ?_
          refine W.no 6 100000 (by kernel_rfl) ?_
          refine W.no 6 100000 (by kernel_rfl) ?_
          refine W.no 6 100000 (by kernel_rfl) ?_
          refine W.no 6 100000 (by kernel_rfl) ?_
          refine W.no 6 100000 (by kernel_rfl) ?_
          refine W.no 6 100000 (by kernel_rfl) ?_
          cases h785; exact W.at 6 100000 [] [0, 3, 5, 6, 7, 8] (by kernel_rfl) K785
    ·
      cases h789; exact W.at 2 100000 [] [3, 5, 7] (by kernel_rfl) K789

theorem divs_Drop_1_con {x_806 : List UInt8} {x_807 : List UInt8} {x_808 : List UInt8} {o0_809 : List UInt8} {r : Bool × List UInt8} (h : divs_Drop_1 x_806 x_807 x_808 o0_809 = some r) : Con Go.Proofs.Tryd.prog 38 [AV.agg [AV.str x_806, AV.str x_807, AV.str x_808], AV.ptr (0 : Nat) (0 : Nat)] [AO.box [AV.str o0_809]] (divs_Drop_1_res r) (divs_Drop_1_out r) := by
  refine W.con (by kernel_rfl) ?_
  unfold divs_Drop_1 at h
  exact W.retT 0 100000 h (by kernel_rfl)

theorem api_Divert__v3_con {s_800 : List (List UInt8 × List UInt8 × List UInt8)} {o0_801 : List UInt8} {r : Int × List UInt8} (h : api_Divert__v3 s_800 o0_801 = some r) : Con Go.Proofs.Tryd.prog 34 [AV.list (Ty.prod Ty.str (Ty.prod Ty.str Ty.str)) s_800 Bool.false, AV.func (Go.Fn.func (38 : Nat)) [] [AV.ptr (0 : Nat) (0 : Nat)]] [AO.box [AV.str o0_801]] (api_Divert__v3_res r) (api_Divert__v3_out r) := by
  refine W.con (by kernel_rfl) ?_
  unfold api_Divert__v3 at h
  refine W.at 0 100000 [] [0, 1, 7, 8] (c' := (fun (s_824 : Int × List UInt8) => (Cfg.mk Mode.run (headTodo Go.Proofs.Tryd.prog 34 0) (St.mk [AV.list (Ty.prod Ty.str (Ty.prod Ty.str Ty.str)) s_800 Bool.false, AV.func (Go.Fn.func (38 : Nat)) [] [AV.ptr (0 : Nat) (0 : Nat)], jj, jj, jj, jj, jj, AV.int IntKind.i64 (↑(List.length s_800) : Int), AV.int IntKind.i64 (Prod.fst s_824), jj, jj, jj, jj, jj, jj, jj, jj, jj, jj] [AO.box [AV.str (Prod.snd s_824)]] (1 : Nat)))) ((0 : Int), o0_801)) (by kernel_rfl) ?_
  refine W.loop (fun (s_824 : Int × List UInt8) => (Cfg.mk Mode.run (headTodo Go.Proofs.Tryd.prog 34 0) (St.mk [AV.list (Ty.prod Ty.str (Ty.prod Ty.str Ty.str)) s_800 Bool.false, AV.func (Go.Fn.func (38 : Nat)) [] [AV.ptr (0 : Nat) (0 : Nat)], jj, jj, jj, jj, jj, AV.int IntKind.i64 (↑(List.length s_800) : Int), AV.int IntKind.i64 (Prod.fst s_824), jj, jj, jj, jj, jj, jj, jj, jj, jj, jj] [AO.box [AV.str (Prod.snd s_824)]] (1 : Nat)))) (fun t => (Sum.elim (fun t_816 => r = (Prod.fst t_816, Prod.snd t_816)) (fun t_818 => Walk Go.Proofs.Tryd.prog 34 (Cfg.mk Mode.run ((headTodo Go.Proofs.Tryd.prog 34 0).drop 3) (St.mk [jj, jj, jj, jj, jj, jj, jj, jj, jj, jj, jj, jj, jj, jj, jj, jj, jj, jj, jj] [AO.box [AV.str t_818]] (1 : Nat))) (api_Divert__v3_res r) (api_Divert__v3_out r))) t) h (fun t h => ?_) (fun s_824 x820 h820 K820 => ?_)
  ·
    rcases t with t_816 | t_818
    · replace h := W.inl (h)
      refine W.elimL (?_)
      exact (Option.some.inj h).symm
    · replace h := W.inr (h)
      refine W.elimR (?_)
      exact W.retT 0 100000 h (by kernel_rfl)
  · unfold api_Divert__v3_b0 at h820
    refine W.cond 2 100000 h820 (by kernel_rfl) (fun h820 => ?_) (fun h820 => ?_)
    ·
      refine W.needT 2 100000 h820 (by kernel_rfl) (fun h820 => ?_)
      refine W.bind h820 fun a_813 ha_813 h820 => ?_
      refine W.call 2 100000 (by kernel_rfl) (divs_Drop_1_con ha_813) (by kernel_rfl) ?_
      refine W.cond 2 100000 h820 (by kernel_rfl) (fun h820 => ?_) (fun h820 => ?_)
      ·
        cases h820; exact W.retK 2 100000 K820 (by kernel_rfl)
      ·
        cases h820; exact W.at 2 100000 [] [0, 1, 7, 8] (by kernel_rfl) K820
    ·
      cases h820; exact W.at 2 100000 [] [] (by kernel_rfl) K820

theorem api_Divert__37_con {o0_798 : List UInt8} {o1_799 : List (List UInt8 × List UInt8 × List UInt8)} {r : List UInt8 × List (List UInt8 × List UInt8 × List UInt8)} (h : api_Divert__37 o0_798 o1_799 = some r) : Con Go.Proofs.Tryd.prog 37 [AV.view (1 : Nat) (0 : Nat) Option.none, AV.func (Go.Fn.func (38 : Nat)) [] [AV.ptr (0 : Nat) (0 : Nat)]] [AO.box [AV.str o0_798], AO.row (Ty.prod Ty.str (Ty.prod Ty.str Ty.str)) o1_799] (api_Divert__37_res r) (api_Divert__37_out r) := by
  refine W.con (by kernel_rfl) ?_
  unfold api_Divert__37 at h
  refine W.bind h fun a_825 ha_825 h => ?_
  refine W.call 0 100000 (by kernel_rfl) (api_Divert__v3_con ha_825) (by kernel_rfl) ?_
  refine W.cond 0 100000 h (by kernel_rfl) (fun h => ?_) (fun h => ?_)
  ·
    exact W.retT 0 100000 h (by kernel_rfl)
  ·
    refine W.at 0 100000 [] [0, 1, 5, 6] (c' := (fun (s_840 : Int × Int × List UInt8 × List (List UInt8 × List UInt8 × List UInt8)) => (Cfg.mk Mode.run (headTodo Go.Proofs.Tryd.prog 37 0) (St.mk [AV.view (1 : Nat) (0 : Nat) Option.none, AV.func (Go.Fn.func (38 : Nat)) [] [AV.ptr (0 : Nat) (0 : Nat)], jj, jj, jj, AV.int IntKind.i64 (Prod.fst s_840), AV.int IntKind.i64 (Prod.fst (Prod.snd s_840)), jj, jj, jj, jj, jj, jj, jj, jj, jj, jj, jj, jj, jj, jj, jj, jj, jj, jj, jj, jj, jj, jj, jj, jj, jj, jj, jj, jj, jj, jj, jj, jj, jj, jj, jj] [AO.box [AV.str (Prod.fst (Prod.snd (Prod.snd s_840)))], AO.row (Ty.prod Ty.str (Ty.prod Ty.str Ty.str)) (Prod.snd (Prod.snd (Prod.snd s_840)))] (2 : Nat)))) (Prod.fst a_825, IntKind.wrap IntKind.i64 (Prod.fst a_825 + (1 : Int)), Prod.snd a_825, o1_799)) (by kernel_rfl) ?_
    refine W.loop (fun (s_840 : Int × Int × List UInt8 × List (List UInt8 × List UInt8 × List UInt8)) => (Cfg.mk Mode.run (headTodo Go.Proofs.Tryd.prog 37 0) (St.mk [AV.view (1 : Nat) (0 : Nat) Option.none, AV.func (Go.Fn.func (38 : Nat)) [] [AV.ptr (0 : Nat) (0 : Nat)], jj, jj, jj, AV.int IntKind.i64 (Prod.fst s_840), AV.int IntKind.i64 (Prod.fst (Prod.snd s_840)), jj, jj, jj, jj, jj, jj, jj, jj, jj, jj, jj, jj, jj, jj, jj, jj, jj, jj, jj, jj, jj, jj, jj, jj, jj, jj, jj, jj, jj, jj, jj, jj, jj, jj, jj] [AO.box [AV.str (Prod.fst (Prod.snd (Prod.snd s_840)))], AO.row (Ty.prod Ty.str (Ty.prod Ty.str Ty.str)) (Prod.snd (Prod.snd (Prod.snd s_840)))] (2 : Nat)))) (fun t_834 => Walk Go.Proofs.Tryd.prog 37 (Cfg.mk Mode.run ((headTodo Go.Proofs.Tryd.prog 37 0).drop 3) (St.mk [AV.view (1 : Nat) (0 : Nat) Option.none, jj, jj, jj, jj, AV.int IntKind.i64 (Prod.fst t_834), jj, jj, jj, jj, jj, jj, jj, jj, jj, jj, jj, jj, jj, jj, jj, jj, jj, jj, jj, jj, jj, jj, jj, jj, jj, jj, jj, jj, jj, jj, jj, jj, jj, jj, jj, jj] [AO.box [AV.str (Prod.fst (Prod.snd t_834))], AO.row (Ty.prod Ty.str (Ty.prod Ty.str Ty.str)) (Prod.snd (Prod.snd t_834))] (2 : Nat))) (api_Divert__37_res r) (api_Divert__37_out r)) h (fun t_834 h => ?_) (fun s_840 x836 h836 K836 => ?_)
    ·
      refine W.needT 0 100000 h (by kernel_rfl) (fun h => ?_)
      refine W.needT 0 100000 h (by kernel_rfl) (fun h => ?_)
      exact W.retT 0 100000 h (by kernel_rfl)
    · unfold api_Divert__37_b0 at h836
      refine W.cond 2 100000 h836 (by kernel_rfl) (fun h836 => ?_) (fun h836 => ?_)
      ·
        refine W.needT 2 100000 h836 (by kernel_rfl) (fun h836 => ?_)
        refine W.needT 2 100000 h836 (by kernel_rfl) (fun h836 => ?_)
        refine W.bind h836 fun a_830 ha_830 h836 => ?_
        refine W.call 2 100000 (by kernel_rfl) (divs_Drop_1_con ha_830) (by kernel_rfl) ?_
        refine W.cond 2 100000 h836 (by kernel_rfl) (fun h836 => ?_) (fun h836 => ?_)
        ·
          refine W.needT 2 100000 h836 (by kernel_rfl) (fun h836 => ?_)
          refine W.needT 2 100000 h836 (by kernel_rfl) (fun h836 => ?_)
          cases h836; exact W.at 2 100000 [] [0, 1, 5, 6] (by kernel_rfl) K836
        ·
          cases h836; exact W.at 2 100000 [] [0, 1, 5, 6] (by kernel_rfl) K836
      ·
        cases h836; exact W.at 2 100000 [] [0, 5] (by kernel_rfl) K836

theorem divs_Drop_con {l_795 : List (List UInt8 × List UInt8 × List UInt8)} {p_796 : List UInt8} {r : List (List UInt8 × List UInt8 × List UInt8)} (h : divs_Drop l_795 p_796 = some r) : Con Go.Proofs.Tryd.prog 22 [AV.list (Ty.prod Ty.str (Ty.prod Ty.str Ty.str)) l_795 Bool.false, AV.str p_796] [] (divs_Drop_res r) (divs_Drop_out r) := by
  refine W.con (by kernel_rfl) ?_
  unfold divs_Drop at h
  refine W.bind h fun a_797 ha_797 h => ?_
  refine W.call 0 100000 (by kernel_rfl) (api_Divert__33_con ha_797) (by kernel_rfl) ?_
  refine W.bind h fun a_841 ha_841 h => ?_
  refine W.call 0 100000 (by kernel_rfl) (api_Divert__37_con ha_841) (by kernel_rfl) ?_
  exact W.retT 0 100000 h (by kernel_rfl)

theorem cellarerref09_Drop_con {l_846 : List (List UInt8 × List UInt8 × List UInt8)} {p_847 : List UInt8} {r : List (List UInt8 × List UInt8 × List UInt8)} (h : cellarerref09_Drop l_846 p_847 = some r) : Con Go.Proofs.Tryd.prog 24 [AV.list (Ty.prod Ty.str (Ty.prod Ty.str Ty.str)) l_846 Bool.false, AV.str p_847] [] (cellarerref09_Drop_res r) (cellarerref09_Drop_out r) := by
  refine W.con (by kernel_rfl) ?_
  unfold cellarerref09_Drop at h
  refine W.at 0 100000 [Co.own 5 (Ty.prod Ty.str (Ty.prod Ty.str Ty.str))] [0, 1, 5, 6] (c' := (fun (s_861 : Int × List (List UInt8 × List UInt8 × List UInt8)) => (Cfg.mk Mode.run (headTodo Go.Proofs.Tryd.prog 24 0) (St.mk [AV.list (Ty.prod Ty.str (Ty.prod Ty.str Ty.str)) l_846 Bool.false, AV.str p_847, jj, jj, jj, AV.view (0 : Nat) (0 : Nat) Option.none, AV.int IntKind.i64 (Prod.fst s_861), jj, jj, jj, jj, jj, jj, jj, jj, jj, jj, jj, jj, jj, jj, jj, jj, jj, jj, jj, jj, jj] [AO.row (Ty.prod Ty.str (Ty.prod Ty.str Ty.str)) (Prod.snd s_861)] (0 : Nat)))) ((0 : Int), [])) (by kernel_rfl) ?_
  refine W.loop (fun (s_861 : Int × List (List UInt8 × List UInt8 × List UInt8)) => (Cfg.mk Mode.run (headTodo Go.Proofs.Tryd.prog 24 0) (St.mk [AV.list (Ty.prod Ty.str (Ty.prod Ty.str Ty.str)) l_846 Bool.false, AV.str p_847, jj, jj, jj, AV.view (0 : Nat) (0 : Nat) Option.none, AV.int IntKind.i64 (Prod.fst s_861), jj, jj, jj, jj, jj, jj, jj, jj, jj, jj, jj, jj, jj, jj, jj, jj, jj, jj, jj, jj, jj] [AO.row (Ty.prod Ty.str (Ty.prod Ty.str Ty.str)) (Prod.snd s_861)] (0 : Nat)))) (fun t_856 => Walk Go.Proofs.Tryd.prog 24 (Cfg.mk Mode.run ((headTodo Go.Proofs.Tryd.prog 24 0).drop 3) (St.mk [jj, jj, jj, jj, jj, AV.view (0 : Nat) (0 : Nat) Option.none, jj, jj, jj, jj, jj, jj, jj, jj, jj, jj, jj, jj, jj, jj, jj, jj, jj, jj, jj, jj, jj, jj] [AO.row (Ty.prod Ty.str (Ty.prod Ty.str Ty.str)) t_856] (0 : Nat))) (cellarerref09_Drop_res r) (cellarerref09_Drop_out r)) h (fun t_856 h => ?_) (fun s_861 x858 h858 K858 => ?_)
  ·
    exact W.retT 0 100000 h (by kernel_rfl)
  · unfold cellarerref09_Drop_b0 at h858
    refine W.cond 2 100000 h858 (by kernel_rfl) (fun h858 => ?_) (fun h858 => ?_)
    ·
      refine W.needT 2 100000 h858 (by kernel_rfl) (fun h858 => ?_)
      refine W.cond 2 100000 h858 (by kernel_rfl) (fun h858 => ?_) (fun h858 => ?_)
      ·
        refine W.needT 2 100000 h858 (by kernel_rfl) (fun h858 => ?_)
        refine W.needT 2 100000 h858 (by kernel_rfl) (fun h858 => ?_)
        cases h858; exact W.at 2 100000 [Co.own 5 (Ty.prod Ty.str (Ty.prod Ty.str Ty.str))] [0, 1, 5, 6] (by kernel_rfl) K858
      ·
        cases h858; exact W.at 2 100000 [Co.own 5 (Ty.prod Ty.str (Ty.prod Ty.str Ty.str))] [0, 1, 5, 6] (by kernel_rfl) K858
    ·
      cases h858; exact W.at 2 100000 [] [5] (by kernel_rfl) K858

theorem cellarerlaw09_DivsPuts_con {l_865 : List (List UInt8 × List UInt8 × List UInt8)} {x_866 : List UInt8} {x_867 : List UInt8} {x_868 : List UInt8} {p_869 : List UInt8} {r : Bool} (h : cellarerlaw09_DivsPuts l_865 x_866 x_867 x_868 p_869 = some r) : Con Go.Proofs.Tryd.prog 7 [AV.list (Ty.prod Ty.str (Ty.prod Ty.str Ty.str)) l_865 Bool.false, AV.agg [AV.str x_866, AV.str x_867, AV.str x_868], AV.str p_869] [] (cellarerlaw09_DivsPuts_res r) (cellarerlaw09_DivsPuts_out r) := by
  refine W.con (by kernel_rfl) ?_
  unfold cellarerlaw09_DivsPuts at h
  refine W.join (fun t => (Sum.elim (fun t_876 => r = (t_876)) (fun t_877 => Walk Go.Proofs.Tryd.prog 7 (Cfg.mk Mode.run (seqTodo Go.Proofs.Tryd.prog 7 1) (St.mk [AV.list (Ty.prod Ty.str (Ty.prod Ty.str Ty.str)) l_865 Bool.false, jj, AV.str p_869, jj, AV.ptr (0 : Nat) (0 : Nat), jj, jj, jj, jj, jj, jj, jj, jj, jj, jj, jj, jj, jj, jj, jj, jj, jj, jj, jj, jj, jj, jj, jj, jj, jj, jj, jj, jj, jj, jj, jj, jj, jj, jj, jj, jj, jj, jj, jj, jj, jj, jj, jj, jj, jj, jj, jj, jj, jj, jj, jj, jj, jj, jj, jj, jj, jj, jj, jj, jj, jj, jj, jj, jj, jj, jj, jj, jj, jj, jj, jj, jj, jj, jj, jj, jj, jj, jj, jj, jj, jj, jj, jj, jj, jj] [AO.box [AV.str x_866, AV.str x_867, AV.str x_868]] (0 : Nat))) (cellarerlaw09_DivsPuts_res r) (cellarerlaw09_DivsPuts_out r))) t) h (fun t h => ?_) (fun t895 h895 K895 => ?_)
  ·
    rcases t with t_876 | t_877
    · replace h := W.inl (h)
      refine W.elimL (?_)
      exact (Option.some.inj h).symm
    · replace h := W.inr (h)
      refine W.elimR (?_)
      refine W.bind h fun a_878 ha_878 h => ?_
      refine W.call 0 100000 (by kernel_rfl) (divs_Put_con ha_878) (by kernel_rfl) ?_
      refine W.bind h fun a_879 ha_879 h => ?_
      refine W.call 0 100000 (by kernel_rfl) (divs_Drop_con ha_879) (by kernel_rfl) ?_
      refine W.join (fun t => (Sum.elim (fun t_888 => r = (Bool.false)) (fun t_889 => Walk Go.Proofs.Tryd.prog 7 (Cfg.mk Mode.run (seqTodo Go.Proofs.Tryd.prog 7 5) (St.mk [jj, jj, AV.str p_869, jj, AV.ptr (0 : Nat) (0 : Nat), jj, jj, AV.view (1 : Nat) (0 : Nat) Option.none, AV.view (2 : Nat) (0 : Nat) Option.none, jj, jj, jj, jj, jj, jj, jj, jj, jj, jj, jj, jj, jj, jj, jj, jj, jj, jj, jj, jj, jj, jj, jj, jj, jj, jj, jj, jj, jj, jj, jj, jj, jj, jj, jj, jj, jj, jj, jj, jj, jj, jj, jj, jj, jj, jj, jj, jj, jj, jj, jj, jj, jj, jj, jj, jj, jj, jj, jj, jj, jj, jj, jj, jj, jj, jj, jj, jj, jj, jj, jj, jj, jj, jj, jj, jj, jj, jj, jj, jj, jj] [AO.box [AV.str x_866, AV.str x_867, AV.str x_868], AO.row (Ty.prod Ty.str (Ty.prod Ty.str Ty.str)) a_878, AO.row (Ty.prod Ty.str (Ty.prod Ty.str Ty.str)) a_879] (0 : Nat))) (cellarerlaw09_DivsPuts_res r) (cellarerlaw09_DivsPuts_out r))) t) h (fun t h => ?_) (fun t894 h894 K894 => ?_)
      ·
        rcases t with t_888 | t_889
        · replace h := W.inl (h)
          refine W.elimL (?_)
          exact (Option.some.inj h).symm
        · replace h := W.inr (h)
          refine W.elimR (?_)
          refine W.bind h fun a_890 ha_890 h => ?_
          refine W.call 0 100000 (by kernel_rfl) (divs_Find_con ha_890) (by kernel_rfl) ?_
          refine W.cond 0 100000 h (by kernel_rfl) (fun h => ?_) (fun h => ?_)
          ·
            refine W.yes 0 100000 (by kernel_rfl) ?_
            refine W.yes 0 100000 (by kernel_rfl) ?_
            refine W.yes 0 100000 (by kernel_rfl) ?_
            refine W.yes 0 100000 (by kernel_rfl) ?_
            refine W.cond 0 100000 h (by kernel_rfl) (fun h => ?_) (fun h => ?_)
            ·
              refine W.yes 0 100000 (by kernel_rfl) ?_
              refine W.yes 0 100000 (by kernel_rfl) ?_
              refine W.needT 0 100000 h (by kernel_rfl) (fun h => ?_)
              refine W.yes 0 100000 (by kernel_rfl) ?_
              refine W.needT 0 100000 h (by kernel_rfl) (fun h => ?_)
              refine W.yes 0 100000 (by kernel_rfl) ?_
              refine W.yes 0 100000 (by kernel_rfl) ?_
              refine W.yes 0 100000 (by kernel_rfl) ?_
              refine W.cond 0 100000 h (by kernel_rfl) (fun h => ?_) (fun h => ?_)
              ·
                refine W.yes 0 100000 (by kernel_rfl) ?_
                refine W.yes 0 100000 (by kernel_rfl) ?_
                refine W.bind h fun a_891 ha_891 h => ?_
                refine W.call 0 100000 (by kernel_rfl) (divs_Find_con ha_891) (by kernel_rfl) ?_
                refine W.yes 0 100000 (by kernel_rfl) ?_
                refine W.yes 0 100000 (by kernel_rfl) ?_
                refine W.cond 0 100000 h (by kernel_rfl) (fun h => ?_) (fun h => ?_)
                ·
                  refine W.bind h fun a_892 ha_892 h => ?_
                  refine W.call 0 100000 (by kernel_rfl) (cellarerlaw09_awake_con ha_892) (by kernel_rfl) ?_
                  refine W.yes 0 100000 (by kernel_rfl) ?_
                  exact W.retT 0 100000 h (by kernel_rfl)
                ·
                  refine W.no 0 100000 (by kernel_rfl) ?_
                  exact W.retT 0 100000 h (by kernel_rfl)
              ·
                refine W.no 0 100000 (by kernel_rfl) ?_
                refine W.no 0 100000 (by kernel_rfl) ?_
                refine W.no 0 100000 (by kernel_rfl) ?_
                refine W.no 0 100000 (by kernel_rfl) ?_
                refine W.no 0 100000 (by kernel_rfl) ?_
                refine W.no 0 100000 (by kernel_rfl) ?_
                exact W.retT 0 100000 h (by kernel_rfl)
            ·
              refine W.no 0 100000 (by kernel_rfl) ?_
              refine W.no 0 100000 (by kernel_rfl) ?_
              refine W.no 0 100000 (by kernel_rfl) ?_
              refine W.no 0 100000 (by kernel_rfl) ?_
              refine W.no 0 100000 (by kernel_rfl) ?_
              refine W.no 0 100000 (by kernel_rfl) ?_
              refine W.no 0 100000 (by kernel_rfl) ?_
              refine W.no 0 100000 (by kernel_rfl) ?_
              refine W.no 0 100000 (by kernel_rfl) ?_
              refine W.no 0 100000 (by kernel_rfl) ?_
              refine W.no 0 100000 (by kernel_rfl) ?_
              refine W.no 0 100000 (by kernel_rfl) ?_
              refine W.no 0 100000 (by kernel_rfl) ?_
              exact W.retT 0 100000 h (by kernel_rfl)
          ·
            refine W.no 0 100000 (by kernel_rfl) ?_
            refine W.no 0 100000 (by kernel_rfl) ?_
            refine W.no 0 100000 (by kernel_rfl) ?_
            refine W.no 0 100000 (by kernel_rfl) ?_
            refine W.no 0 100000 (by kernel_rfl) ?_
            refine W.no 0 100000 (by kernel_rfl) ?_
            refine W.no 0 100000 (by kernel_rfl) ?_
            refine W.no 0 100000 (by kernel_rfl) ?_
            refine W.no 0 100000 (by kernel_rfl) ?_
            refine W.no 0 100000 (by kernel_rfl) ?_
            refine W.no 0 100000 (by kernel_rfl) ?_
            refine W.no 0 100000 (by kernel_rfl) ?_
            refine W.no 0 100000 (by kernel_rfl) ?_
            refine W.no 0 100000 (by kernel_rfl) ?_
            refine W.no 0 100000 (by kernel_rfl) ?_
            refine W.no 0 100000 (by kernel_rfl) ?_
            refine W.no 0 100000 (by kernel_rfl) ?_
            refine W.no 0 100000 (by kernel_rfl) ?_
            exact W.retT 0 100000 h (by kernel_rfl)
      · refine W.next 0 4 (by kernel_rfl) ?_
        refine W.bind h894 fun a_880 ha_880 h894 => ?_
        refine W.call 1 100000 (by kernel_rfl) (cellarerref09_Put_con ha_880) (by kernel_rfl) ?_
        refine W.bind h894 fun a_881 ha_881 h894 => ?_
        refine W.call 1 100000 (by kernel_rfl) (cellarerref09_Same_con ha_881) (by kernel_rfl) ?_
        refine W.cond 1 100000 h894 (by kernel_rfl) (fun h894 => ?_) (fun h894 => ?_)
        ·
          refine W.yes 1 100000 (by kernel_rfl) ?_
          refine W.yes 1 100000 (by kernel_rfl) ?_
          refine W.yes 1 100000 (by kernel_rfl) ?_
          refine W.yes 1 100000 (by kernel_rfl) ?_
          refine W.yes 1 100000 (by kernel_rfl) ?_
          refine W.yes 1 100000 (by kernel_rfl) ?_
          refine W.yes 1 100000 (by kernel_rfl) ?_
          refine W.yes 1 100000 (by kernel_rfl) ?_
          refine W.yes 1 100000 (by kernel_rfl) ?_
          refine W.yes 1 100000 (by kernel_rfl) ?_
          refine W.yes 1 100000 (by kernel_rfl) ?_
          refine W.yes 1 100000 (by kernel_rfl) ?_
          refine W.yes 1 100000 (by kernel_rfl) ?_
          refine W.yes 1 100000 (by kernel_rfl) ?_
          refine W.yes 1 100000 (by kernel_rfl) ?_
          refine W.yes 1 100000 (by kernel_rfl) ?_
          refine W.yes 1 100000 (by kernel_rfl) ?_
          refine W.yes 1 100000 (by kernel_rfl) ?_
          refine W.yes 1 100000 (by kernel_rfl) ?_
          refine W.yes 1 100000 (by kernel_rfl) ?_
          refine W.yes 1 100000 (by kernel_rfl) ?_
          cases h894; exact W.retK 1 100000 K894 (by kernel_rfl)
        ·
          refine W.no 1 100000 (by kernel_rfl) ?_
          refine W.no 1 100000 (by kernel_rfl) ?_
          refine W.no 1 100000 (by kernel_rfl) ?_
          refine W.bind h894 fun a_882 ha_882 h894 => ?_
          refine W.call 1 100000 (by kernel_rfl) (cellarerref09_Drop_con ha_882) (by kernel_rfl) ?_
          refine W.no 1 100000 (by kernel_rfl) ?_
          refine W.bind h894 fun a_883 ha_883 h894 => ?_
          refine W.call 1 100000 (by kernel_rfl) (cellarerref09_Same_con ha_883) (by kernel_rfl) ?_
          refine W.no 1 100000 (by kernel_rfl) ?_
          refine W.no 1 100000 (by kernel_rfl) ?_
          refine W.cond 1 100000 h894 (by kernel_rfl) (fun h894 => ?_) (fun h894 => ?_)
          ·
            refine W.yes 1 100000 (by kernel_rfl) ?_
            refine W.yes 1 100000 (by kernel_rfl) ?_
            refine W.yes 1 100000 (by kernel_rfl) ?_
            refine W.yes 1 100000 (by kernel_rfl) ?_
            refine W.yes 1 100000 (by kernel_rfl) ?_
            refine W.yes 1 100000 (by kernel_rfl) ?_
            refine W.yes 1 100000 (by kernel_rfl) ?_
            refine W.yes 1 100000 (by kernel_rfl) ?_
            refine W.yes 1 100000 (by kernel_rfl) ?_
            refine W.yes 1 100000 (by kernel_rfl) ?_
            refine W.yes 1 100000 (by kernel_rfl) ?_
            refine W.yes 1 100000 (by kernel_rfl) ?_
            refine W.yes 1 100000 (by kernel_rfl) ?_
            refine W.yes 1 100000 (by kernel_rfl) ?_
            cases h894; exact W.retK 1 100000 K894 (by kernel_rfl)
          ·
            refine W.no 1 100000 (by kernel_rfl) ?_
            refine W.no 1 100000 (by kernel_rfl) ?_
            refine W.bind h894 fun a_884 ha_884 h894 => ?_
            refine W.call 1 100000 (by kernel_rfl) (divs_Find_con ha_884) (by kernel_rfl) ?_
            refine W.no 1 100000 (by kernel_rfl) ?_
            refine W.no 1 100000 (by kernel_rfl) ?_
            refine W.no 1 100000 (by kernel_rfl) ?_
            refine W.bind h894 fun a_885 ha_885 h894 => ?_
            refine W.call 1 100000 (by kernel_rfl) (cellarerref09_Find_con ha_885) (by kernel_rfl) ?_
            refine W.no 1 100000 (by kernel_rfl) ?_
            refine W.no 1 100000 (by kernel_rfl) ?_
            refine W.cond 1 100000 h894 (by kernel_rfl) (fun h894 => ?_) (fun h894 => ?_)
            ·
              refine W.yes 1 100000 (by kernel_rfl) ?_
              refine W.yes 1 100000 (by kernel_rfl) ?_
              refine W.yes 1 100000 (by kernel_rfl) ?_
              refine W.yes 1 100000 (by kernel_rfl) ?_
              refine W.yes 1 100000 (by kernel_rfl) ?_
              refine W.yes 1 100000 (by kernel_rfl) ?_
              cases h894; exact W.retK 1 100000 K894 (by kernel_rfl)
            ·
              refine W.no 1 100000 (by kernel_rfl) ?_
              refine W.bind h894 fun a_886 ha_886 h894 => ?_
              refine W.call 1 100000 (by kernel_rfl) (divs_Right_con ha_886) (by kernel_rfl) ?_
              refine W.no 1 100000 (by kernel_rfl) ?_
              refine W.no 1 100000 (by kernel_rfl) ?_
              refine W.bind h894 fun a_887 ha_887 h894 => ?_
              refine W.call 1 100000 (by kernel_rfl) (cellarerref09_Right_con ha_887) (by kernel_rfl) ?_
              refine W.no 1 100000 (by kernel_rfl) ?_
              refine W.no 1 100000 (by kernel_rfl) ?_
              refine W.cond 1 100000 h894 (by kernel_rfl) (fun h894 => ?_) (fun h894 => ?_)
              ·
                cases h894; exact W.retK 1 100000 K894 (by kernel_rfl)
              ·
                cases h894; exact W.at 1 100000 [] [2, 4, 7, 8] (by kernel_rfl) K894
  · refine W.next 0 6 (by kernel_rfl) ?_
    refine W.bind h895 fun a_870 ha_870 h895 => ?_
    refine W.call 1 100000 (by kernel_rfl) (cellarerlaw09_Few_con ha_870) (by kernel_rfl) ?_
    refine W.cond 1 100000 h895 (by kernel_rfl) (fun h895 => ?_) (fun h895 => ?_)
    ·
      refine W.yes 1 100000 (by kernel_rfl) ?_
      refine W.yes 1 100000 (by kernel_rfl) ?_
      refine W.yes 1 100000 (by kernel_rfl) ?_
      refine W.yes 1 100000 (by kernel_rfl) ?_
      refine W.yes 1 100000 (by kernel_rfl) ?_
      refine W.yes 1 100000 (by kernel_rfl) ?_
      refine W.yes 1 100000 (by kernel_rfl) ?_
      refine W.yes 1 100000 (by kernel_rfl) ?_
      refine W.yes 1 100000 (by kernel_rfl) ?_
      refine W.bind h895 fun a_871 ha_871 h895 => ?_
      refine W.call 1 100000 (by kernel_rfl) (cellarerlaw09_awake_con ha_871) (by kernel_rfl) ?_
      cases h895; exact W.retK 1 100000 K895 (by kernel_rfl)
    ·
      refine W.no 1 100000 (by kernel_rfl) ?_
      refine W.no 1 100000 (by kernel_rfl) ?_
      refine W.bind h895 fun a_872 ha_872 h895 => ?_
      refine W.call 1 100000 (by kernel_rfl) (cellarerlaw09_Few_con ha_872) (by kernel_rfl) ?_
      refine W.no 1 100000 (by kernel_rfl) ?_
      refine W.no 1 100000 (by kernel_rfl) ?_
      refine W.cond 1 100000 h895 (by kernel_rfl) (fun h895 => ?_) (fun h895 => ?_)
      ·
        refine W.yes 1 100000 (by kernel_rfl) ?_
        refine W.yes 1 100000 (by kernel_rfl) ?_
        refine W.yes 1 100000 (by kernel_rfl) ?_
        refine W.yes 1 100000 (by kernel_rfl) ?_
        refine W.bind h895 fun a_873 ha_873 h895 => ?_
        refine W.call 1 100000 (by kernel_rfl) (cellarerlaw09_awake_con ha_873) (by kernel_rfl) ?_
        cases h895; exact W.retK 1 100000 K895 (by kernel_rfl)
      ·
        refine W.no 1 100000 (by kernel_rfl) ?_
        refine W.no 1 100000 (by kernel_rfl) ?_
        refine W.no 1 100000 (by kernel_rfl) ?_
        refine W.cond 1 100000 h895 (by kernel_rfl) (fun h895 => ?_) (fun h895 => ?_)
        ·
          refine W.bind h895 fun a_874 ha_874 h895 => ?_
          refine W.call 1 100000 (by kernel_rfl) (cellarerlaw09_awake_con ha_874) (by kernel_rfl) ?_
          cases h895; exact W.retK 1 100000 K895 (by kernel_rfl)
        ·
          cases h895; exact W.at 1 100000 [] [0, 2, 4] (by kernel_rfl) K895

end Go.Cellar
