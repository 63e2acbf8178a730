/- My own texts, one behind the other: Sn Sk Ua Uc Ya Yb Sc Yc TwA. -/
import Derived.Test.YthbcfamfaicneaaGreatPf2
import Derived.Test.YthbcfamfaicneaaGreatPf1
import Derived.Sort.AssemblyPlain
/- MY OWN LAYER: the take of a region in two phases, as a default proof. -/
namespace Go.Proofs.YthbcfamfaicneaaGreat.E
open Go Go.RowKit
set_option maxRecDepth 100000
theorem m_bake {p q : Prop} {i : Nat} (at_ : At i) (k : q) (h : Hold q → At i → p := by intro h_ at_; (first | (apply TB.takeA at_; exact rfl; exact rfl; kernel_rfl; exact rfl; (focus ((repeat (first | assumption | exact Ent.refl _ | apply Ent.tail)); done)); (first | (apply PV.moveE; (first | exact (rfl : _ = w32 _) | exact (rfl : _ = Value.int _ _) | exact (rfl : _ = Value.slice _ _ _) | exact (rfl : _ = Value.pointer (some ⟨_, _, _⟩)) | exact (rfl : _ = Value.bool _) | exact (rfl : _ = Value.pointer none) | exact (rfl : _ = Value.string _) | exact (rfl : _ = Value.agg _) | exact (rfl : _ = Value.tuple _) | exact (rfl : _ = Value.func _ _ _) | exact (rfl : _ = Value.map _) | exact (rfl : _ = Value.iface _ _) | exact (rfl : _ = Value.nilIface) | exact (rfl : _ = Value.nilFunc) | exact rfl)) | (apply PV.assignE; (first | exact (rfl : _ = w32 _) | exact (rfl : _ = Value.int _ _) | exact (rfl : _ = Value.slice _ _ _) | exact (rfl : _ = Value.pointer (some ⟨_, _, _⟩)) | exact (rfl : _ = Value.bool _) | exact (rfl : _ = Value.pointer none) | exact (rfl : _ = Value.string _) | exact (rfl : _ = Value.agg _) | exact (rfl : _ = Value.tuple _) | exact (rfl : _ = Value.func _ _ _) | exact (rfl : _ = Value.map _) | exact (rfl : _ = Value.iface _ _) | exact (rfl : _ = Value.nilIface) | exact (rfl : _ = Value.nilFunc) | exact rfl)) | (apply PV.lenSlice; exact rfl; exact tb rfl; exact rfl) | (apply PV.addW; exact rfl; exact rfl) | (apply PV.xorW; exact rfl; exact rfl) | (apply PV.andW; exact rfl; exact rfl) | (apply PV.orW; exact rfl; exact rfl) | (apply PV.notW; exact rfl) | (apply PV.shrW; exact rfl; exact rfl; (first | exact (rfl : _ = ((0 : Nat) : Int)) | exact (rfl : _ = ((1 : Nat) : Int)) | exact (rfl : _ = ((2 : Nat) : Int)) | exact (rfl : _ = ((3 : Nat) : Int)) | exact (rfl : _ = ((4 : Nat) : Int)) | exact (rfl : _ = ((5 : Nat) : Int)) | exact (rfl : _ = ((6 : Nat) : Int)) | exact (rfl : _ = ((7 : Nat) : Int)) | exact (rfl : _ = ((8 : Nat) : Int)) | exact (rfl : _ = ((9 : Nat) : Int)) | exact (rfl : _ = ((10 : Nat) : Int)) | exact (rfl : _ = ((11 : Nat) : Int)) | exact (rfl : _ = ((12 : Nat) : Int)) | exact (rfl : _ = ((13 : Nat) : Int)) | exact (rfl : _ = ((14 : Nat) : Int)) | exact (rfl : _ = ((15 : Nat) : Int)) | exact (rfl : _ = ((16 : Nat) : Int)) | exact (rfl : _ = ((17 : Nat) : Int)) | exact (rfl : _ = ((18 : Nat) : Int)) | exact (rfl : _ = ((19 : Nat) : Int)) | exact (rfl : _ = ((20 : Nat) : Int)) | exact (rfl : _ = ((21 : Nat) : Int)) | exact (rfl : _ = ((22 : Nat) : Int)) | exact (rfl : _ = ((23 : Nat) : Int)) | exact (rfl : _ = ((24 : Nat) : Int)) | exact (rfl : _ = ((25 : Nat) : Int)) | exact (rfl : _ = ((26 : Nat) : Int)) | exact (rfl : _ = ((27 : Nat) : Int)) | exact (rfl : _ = ((28 : Nat) : Int)) | exact (rfl : _ = ((29 : Nat) : Int)) | exact (rfl : _ = ((30 : Nat) : Int)) | exact (rfl : _ = ((31 : Nat) : Int)) | exact (rfl : _ = ((32 : Nat) : Int)) | exact (rfl : _ = ((33 : Nat) : Int)) | exact (rfl : _ = ((34 : Nat) : Int)) | exact (rfl : _ = ((35 : Nat) : Int)) | exact (rfl : _ = ((36 : Nat) : Int)) | exact (rfl : _ = ((37 : Nat) : Int)) | exact (rfl : _ = ((38 : Nat) : Int)) | exact (rfl : _ = ((39 : Nat) : Int)) | exact (rfl : _ = ((40 : Nat) : Int)) | exact (rfl : _ = ((41 : Nat) : Int)) | exact (rfl : _ = ((42 : Nat) : Int)) | exact (rfl : _ = ((43 : Nat) : Int)) | exact (rfl : _ = ((44 : Nat) : Int)) | exact (rfl : _ = ((45 : Nat) : Int)) | exact (rfl : _ = ((46 : Nat) : Int)) | exact (rfl : _ = ((47 : Nat) : Int)) | exact (rfl : _ = ((48 : Nat) : Int)) | exact (rfl : _ = ((49 : Nat) : Int)) | exact (rfl : _ = ((50 : Nat) : Int)) | exact (rfl : _ = ((51 : Nat) : Int)) | exact (rfl : _ = ((52 : Nat) : Int)) | exact (rfl : _ = ((53 : Nat) : Int)) | exact (rfl : _ = ((54 : Nat) : Int)) | exact (rfl : _ = ((55 : Nat) : Int)) | exact (rfl : _ = ((56 : Nat) : Int)) | exact (rfl : _ = ((57 : Nat) : Int)) | exact (rfl : _ = ((58 : Nat) : Int)) | exact (rfl : _ = ((59 : Nat) : Int)) | exact (rfl : _ = ((60 : Nat) : Int)) | exact (rfl : _ = ((61 : Nat) : Int)) | exact (rfl : _ = ((62 : Nat) : Int)) | exact (rfl : _ = ((63 : Nat) : Int)) | exact (rfl : _ = ((64 : Nat) : Int)) | exact (rfl : _ = ((128 : Nat) : Int)) | exact (rfl : _ = ((256 : Nat) : Int))); decide) | (apply PV.shlW; exact rfl; exact rfl; (first | exact (rfl : _ = ((0 : Nat) : Int)) | exact (rfl : _ = ((1 : Nat) : Int)) | exact (rfl : _ = ((2 : Nat) : Int)) | exact (rfl : _ = ((3 : Nat) : Int)) | exact (rfl : _ = ((4 : Nat) : Int)) | exact (rfl : _ = ((5 : Nat) : Int)) | exact (rfl : _ = ((6 : Nat) : Int)) | exact (rfl : _ = ((7 : Nat) : Int)) | exact (rfl : _ = ((8 : Nat) : Int)) | exact (rfl : _ = ((9 : Nat) : Int)) | exact (rfl : _ = ((10 : Nat) : Int)) | exact (rfl : _ = ((11 : Nat) : Int)) | exact (rfl : _ = ((12 : Nat) : Int)) | exact (rfl : _ = ((13 : Nat) : Int)) | exact (rfl : _ = ((14 : Nat) : Int)) | exact (rfl : _ = ((15 : Nat) : Int)) | exact (rfl : _ = ((16 : Nat) : Int)) | exact (rfl : _ = ((17 : Nat) : Int)) | exact (rfl : _ = ((18 : Nat) : Int)) | exact (rfl : _ = ((19 : Nat) : Int)) | exact (rfl : _ = ((20 : Nat) : Int)) | exact (rfl : _ = ((21 : Nat) : Int)) | exact (rfl : _ = ((22 : Nat) : Int)) | exact (rfl : _ = ((23 : Nat) : Int)) | exact (rfl : _ = ((24 : Nat) : Int)) | exact (rfl : _ = ((25 : Nat) : Int)) | exact (rfl : _ = ((26 : Nat) : Int)) | exact (rfl : _ = ((27 : Nat) : Int)) | exact (rfl : _ = ((28 : Nat) : Int)) | exact (rfl : _ = ((29 : Nat) : Int)) | exact (rfl : _ = ((30 : Nat) : Int)) | exact (rfl : _ = ((31 : Nat) : Int)) | exact (rfl : _ = ((32 : Nat) : Int)) | exact (rfl : _ = ((33 : Nat) : Int)) | exact (rfl : _ = ((34 : Nat) : Int)) | exact (rfl : _ = ((35 : Nat) : Int)) | exact (rfl : _ = ((36 : Nat) : Int)) | exact (rfl : _ = ((37 : Nat) : Int)) | exact (rfl : _ = ((38 : Nat) : Int)) | exact (rfl : _ = ((39 : Nat) : Int)) | exact (rfl : _ = ((40 : Nat) : Int)) | exact (rfl : _ = ((41 : Nat) : Int)) | exact (rfl : _ = ((42 : Nat) : Int)) | exact (rfl : _ = ((43 : Nat) : Int)) | exact (rfl : _ = ((44 : Nat) : Int)) | exact (rfl : _ = ((45 : Nat) : Int)) | exact (rfl : _ = ((46 : Nat) : Int)) | exact (rfl : _ = ((47 : Nat) : Int)) | exact (rfl : _ = ((48 : Nat) : Int)) | exact (rfl : _ = ((49 : Nat) : Int)) | exact (rfl : _ = ((50 : Nat) : Int)) | exact (rfl : _ = ((51 : Nat) : Int)) | exact (rfl : _ = ((52 : Nat) : Int)) | exact (rfl : _ = ((53 : Nat) : Int)) | exact (rfl : _ = ((54 : Nat) : Int)) | exact (rfl : _ = ((55 : Nat) : Int)) | exact (rfl : _ = ((56 : Nat) : Int)) | exact (rfl : _ = ((57 : Nat) : Int)) | exact (rfl : _ = ((58 : Nat) : Int)) | exact (rfl : _ = ((59 : Nat) : Int)) | exact (rfl : _ = ((60 : Nat) : Int)) | exact (rfl : _ = ((61 : Nat) : Int)) | exact (rfl : _ = ((62 : Nat) : Int)) | exact (rfl : _ = ((63 : Nat) : Int)) | exact (rfl : _ = ((64 : Nat) : Int)) | exact (rfl : _ = ((128 : Nat) : Int)) | exact (rfl : _ = ((256 : Nat) : Int))); decide) | (apply PV.conv8W; exact rfl; exact tb rfl; exact tb rfl; exact rfl) | (apply PV.convW8; exact rfl; exact tb rfl; exact tb rfl; exact rfl) | (apply PV.compare; exact rfl; exact rfl; exact rfl) | (apply PV.arith; exact rfl; exact rfl; exact rfl) | (apply PV.fieldAddr; exact rfl; exact tb rfl; exact rfl; exact rfl; exact tb rfl; exact rfl; (first | exact (rfl : _ = 0) | exact (rfl : _ = 1) | exact (rfl : _ = 2) | exact (rfl : _ = 3) | exact (rfl : _ = 4) | exact (rfl : _ = 5) | exact (rfl : _ = 6) | exact (rfl : _ = 7) | exact (rfl : _ = 8) | exact (rfl : _ = 9) | exact (rfl : _ = 10) | exact (rfl : _ = 11) | exact (rfl : _ = 12) | exact (rfl : _ = 13) | exact (rfl : _ = 14) | exact (rfl : _ = 15) | exact (rfl : _ = 16) | exact (rfl : _ = 17) | exact (rfl : _ = 18) | exact (rfl : _ = 19) | exact (rfl : _ = 20) | exact (rfl : _ = 21) | exact (rfl : _ = 22) | exact (rfl : _ = 23) | exact (rfl : _ = 24) | exact (rfl : _ = 25) | exact (rfl : _ = 26) | exact (rfl : _ = 27) | exact (rfl : _ = 28) | exact (rfl : _ = 29) | exact (rfl : _ = 30) | exact (rfl : _ = 31) | exact (rfl : _ = 32) | exact (rfl : _ = 33) | exact (rfl : _ = 34) | exact (rfl : _ = 35) | exact (rfl : _ = 36) | exact (rfl : _ = 37) | exact (rfl : _ = 38) | exact (rfl : _ = 39) | exact (rfl : _ = 40) | exact (rfl : _ = 64) | exact (rfl : _ = 128) | exact rfl); (first | exact (rfl : _ = 0) | exact (rfl : _ = 1) | exact (rfl : _ = 2) | exact (rfl : _ = 3) | exact (rfl : _ = 4) | exact (rfl : _ = 5) | exact (rfl : _ = 6) | exact (rfl : _ = 7) | exact (rfl : _ = 8) | exact (rfl : _ = 9) | exact (rfl : _ = 10) | exact (rfl : _ = 11) | exact (rfl : _ = 12) | exact (rfl : _ = 13) | exact (rfl : _ = 14) | exact (rfl : _ = 15) | exact (rfl : _ = 16) | exact (rfl : _ = 17) | exact (rfl : _ = 18) | exact (rfl : _ = 19) | exact (rfl : _ = 20) | exact (rfl : _ = 21) | exact (rfl : _ = 22) | exact (rfl : _ = 23) | exact (rfl : _ = 24) | exact (rfl : _ = 25) | exact (rfl : _ = 26) | exact (rfl : _ = 27) | exact (rfl : _ = 28) | exact (rfl : _ = 29) | exact (rfl : _ = 30) | exact (rfl : _ = 31) | exact (rfl : _ = 32) | exact (rfl : _ = 33) | exact (rfl : _ = 34) | exact (rfl : _ = 35) | exact (rfl : _ = 36) | exact (rfl : _ = 37) | exact (rfl : _ = 38) | exact (rfl : _ = 39) | exact (rfl : _ = 40) | exact (rfl : _ = 64) | exact (rfl : _ = 128) | exact rfl)) | (apply PV.nilCheck; exact rfl) | (apply PV.not; exact rfl) | (apply PV.pickE; exact rfl; (first | exact (rfl : _ = w32 _) | exact (rfl : _ = Value.int _ _) | exact (rfl : _ = Value.slice _ _ _) | exact (rfl : _ = Value.pointer (some ⟨_, _, _⟩)) | exact (rfl : _ = Value.bool _) | exact (rfl : _ = Value.pointer none) | exact (rfl : _ = Value.string _) | exact (rfl : _ = Value.agg _) | exact (rfl : _ = Value.tuple _) | exact (rfl : _ = Value.func _ _ _) | exact (rfl : _ = Value.map _) | exact (rfl : _ = Value.iface _ _) | exact (rfl : _ = Value.nilIface) | exact (rfl : _ = Value.nilFunc) | exact rfl)) | (apply PV.load; exact rfl; exact tb rfl; exact rfl; (first | assumption | exact has_row 0 rfl rfl | exact has_row 1 rfl rfl | exact has_row 2 rfl rfl | exact has_row 3 rfl rfl | exact has_row 4 rfl rfl | exact has_row 5 rfl rfl | exact has_row 6 rfl rfl | (focus ((repeat (first | assumption | apply has_tlc)); done)))) | (apply PV.extract; exact rfl; (first | exact (rfl : _ = w32 _) | exact (rfl : _ = Value.int _ _) | exact (rfl : _ = Value.slice _ _ _) | exact (rfl : _ = Value.pointer (some ⟨_, _, _⟩)) | exact (rfl : _ = Value.bool _) | exact (rfl : _ = Value.pointer none) | exact (rfl : _ = Value.string _) | exact (rfl : _ = Value.agg _) | exact (rfl : _ = Value.tuple _) | exact (rfl : _ = Value.func _ _ _) | exact (rfl : _ = Value.map _) | exact (rfl : _ = Value.iface _ _) | exact (rfl : _ = Value.nilIface) | exact (rfl : _ = Value.nilFunc) | exact rfl)) | (apply PV.loadRow 0; exact rfl; exact rfl; exact tb rfl; exact rfl; (first | exact (rfl : _ = []) | exact (rfl : _ = [_]) | exact (rfl : _ = [_, _]) | exact (rfl : _ = [_, _, _]) | exact (rfl : _ = [_, _, _, _]) | exact (rfl : _ = [_, _, _, _, _]) | exact (rfl : _ = [_, _, _, _, _, _]) | exact (rfl : _ = [_, _, _, _, _, _, _]) | exact (rfl : _ = [_, _, _, _, _, _, _, _]) | exact (rfl : _ = [_, _, _, _, _, _, _, _, _]) | exact (rfl : _ = [_, _, _, _, _, _, _, _, _, _]) | exact (rfl : _ = [_, _, _, _, _, _, _, _, _, _, _]) | exact rfl); exact rfl) | (apply PV.loadRow 1; exact rfl; exact rfl; exact tb rfl; exact rfl; (first | exact (rfl : _ = []) | exact (rfl : _ = [_]) | exact (rfl : _ = [_, _]) | exact (rfl : _ = [_, _, _]) | exact (rfl : _ = [_, _, _, _]) | exact (rfl : _ = [_, _, _, _, _]) | exact (rfl : _ = [_, _, _, _, _, _]) | exact (rfl : _ = [_, _, _, _, _, _, _]) | exact (rfl : _ = [_, _, _, _, _, _, _, _]) | exact (rfl : _ = [_, _, _, _, _, _, _, _, _]) | exact (rfl : _ = [_, _, _, _, _, _, _, _, _, _]) | exact (rfl : _ = [_, _, _, _, _, _, _, _, _, _, _]) | exact rfl); exact rfl) | (apply PV.loadRow 2; exact rfl; exact rfl; exact tb rfl; exact rfl; (first | exact (rfl : _ = []) | exact (rfl : _ = [_]) | exact (rfl : _ = [_, _]) | exact (rfl : _ = [_, _, _]) | exact (rfl : _ = [_, _, _, _]) | exact (rfl : _ = [_, _, _, _, _]) | exact (rfl : _ = [_, _, _, _, _, _]) | exact (rfl : _ = [_, _, _, _, _, _, _]) | exact (rfl : _ = [_, _, _, _, _, _, _, _]) | exact (rfl : _ = [_, _, _, _, _, _, _, _, _]) | exact (rfl : _ = [_, _, _, _, _, _, _, _, _, _]) | exact (rfl : _ = [_, _, _, _, _, _, _, _, _, _, _]) | exact rfl); exact rfl) | (apply PV.loadRow 3; exact rfl; exact rfl; exact tb rfl; exact rfl; (first | exact (rfl : _ = []) | exact (rfl : _ = [_]) | exact (rfl : _ = [_, _]) | exact (rfl : _ = [_, _, _]) | exact (rfl : _ = [_, _, _, _]) | exact (rfl : _ = [_, _, _, _, _]) | exact (rfl : _ = [_, _, _, _, _, _]) | exact (rfl : _ = [_, _, _, _, _, _, _]) | exact (rfl : _ = [_, _, _, _, _, _, _, _]) | exact (rfl : _ = [_, _, _, _, _, _, _, _, _]) | exact (rfl : _ = [_, _, _, _, _, _, _, _, _, _]) | exact (rfl : _ = [_, _, _, _, _, _, _, _, _, _, _]) | exact rfl); exact rfl) | (apply PV.loadRow 4; exact rfl; exact rfl; exact tb rfl; exact rfl; (first | exact (rfl : _ = []) | exact (rfl : _ = [_]) | exact (rfl : _ = [_, _]) | exact (rfl : _ = [_, _, _]) | exact (rfl : _ = [_, _, _, _]) | exact (rfl : _ = [_, _, _, _, _]) | exact (rfl : _ = [_, _, _, _, _, _]) | exact (rfl : _ = [_, _, _, _, _, _, _]) | exact (rfl : _ = [_, _, _, _, _, _, _, _]) | exact (rfl : _ = [_, _, _, _, _, _, _, _, _]) | exact (rfl : _ = [_, _, _, _, _, _, _, _, _, _]) | exact (rfl : _ = [_, _, _, _, _, _, _, _, _, _, _]) | exact rfl); exact rfl) | (apply PV.loadRow 5; exact rfl; exact rfl; exact tb rfl; exact rfl; (first | exact (rfl : _ = []) | exact (rfl : _ = [_]) | exact (rfl : _ = [_, _]) | exact (rfl : _ = [_, _, _]) | exact (rfl : _ = [_, _, _, _]) | exact (rfl : _ = [_, _, _, _, _]) | exact (rfl : _ = [_, _, _, _, _, _]) | exact (rfl : _ = [_, _, _, _, _, _, _]) | exact (rfl : _ = [_, _, _, _, _, _, _, _]) | exact (rfl : _ = [_, _, _, _, _, _, _, _, _]) | exact (rfl : _ = [_, _, _, _, _, _, _, _, _, _]) | exact (rfl : _ = [_, _, _, _, _, _, _, _, _, _, _]) | exact rfl); exact rfl) | (apply PV.loadAggH; exact rfl; exact tb rfl; exact rfl; (first | assumption | exact has_rows 0 rfl rfl | exact has_rows 1 rfl rfl | exact has_rows 2 rfl rfl | exact has_rows 3 rfl rfl | (focus ((repeat (first | assumption | apply has_tlg)); done))); exact rfl) | (apply PV.eqPtr; exact rfl; exact tb rfl; exact rfl) | (apply PV.nePtr; exact rfl; exact tb rfl; exact rfl) | (apply PV.eqSlice; exact rfl; exact tb rfl; exact rfl) | (apply PV.neSlice; exact rfl; exact tb rfl; exact rfl) | (apply PV.conv; exact rfl; exact tb rfl; exact tb rfl; exact rfl) | (apply PV.eqBool; exact rfl; exact rfl; exact tb rfl; exact rfl) | (apply PV.neBool; exact rfl; exact rfl; exact tb rfl; exact rfl) | (apply PV.lenS; exact rfl; exact tb rfl; exact rfl) | (apply PV.lenStr; exact rfl; exact tb rfl; exact rfl) | (apply PV.indexS; exact rfl; exact rfl; exact tb rfl; exact rfl; assumption) | (apply PV.lenArray; exact tb rfl; exact rfl) | (apply PV.capSlice; exact rfl; exact tb rfl; exact rfl) | (apply PV.andM; exact rfl; exact rfl; (first | exact (rfl : _ = ((2 ^ 1 - 1 : Nat) : Int)) | exact (rfl : _ = ((2 ^ 2 - 1 : Nat) : Int)) | exact (rfl : _ = ((2 ^ 3 - 1 : Nat) : Int)) | exact (rfl : _ = ((2 ^ 4 - 1 : Nat) : Int)) | exact (rfl : _ = ((2 ^ 5 - 1 : Nat) : Int)) | exact (rfl : _ = ((2 ^ 6 - 1 : Nat) : Int)) | exact (rfl : _ = ((2 ^ 7 - 1 : Nat) : Int)) | exact (rfl : _ = ((2 ^ 8 - 1 : Nat) : Int)) | exact (rfl : _ = ((2 ^ 16 - 1 : Nat) : Int)) | exact (rfl : _ = ((2 ^ 32 - 1 : Nat) : Int))); decide; exact rfl) | (apply PV.bits; exact rfl; exact rfl; exact rfl) | (apply PV.shrN; exact rfl; exact rfl; (first | exact (rfl : _ = ((0 : Nat) : Int)) | exact (rfl : _ = ((1 : Nat) : Int)) | exact (rfl : _ = ((2 : Nat) : Int)) | exact (rfl : _ = ((3 : Nat) : Int)) | exact (rfl : _ = ((4 : Nat) : Int)) | exact (rfl : _ = ((5 : Nat) : Int)) | exact (rfl : _ = ((6 : Nat) : Int)) | exact (rfl : _ = ((7 : Nat) : Int)) | exact (rfl : _ = ((8 : Nat) : Int)) | exact (rfl : _ = ((9 : Nat) : Int)) | exact (rfl : _ = ((10 : Nat) : Int)) | exact (rfl : _ = ((11 : Nat) : Int)) | exact (rfl : _ = ((12 : Nat) : Int)) | exact (rfl : _ = ((13 : Nat) : Int)) | exact (rfl : _ = ((14 : Nat) : Int)) | exact (rfl : _ = ((15 : Nat) : Int)) | exact (rfl : _ = ((16 : Nat) : Int)) | exact (rfl : _ = ((17 : Nat) : Int)) | exact (rfl : _ = ((18 : Nat) : Int)) | exact (rfl : _ = ((19 : Nat) : Int)) | exact (rfl : _ = ((20 : Nat) : Int)) | exact (rfl : _ = ((21 : Nat) : Int)) | exact (rfl : _ = ((22 : Nat) : Int)) | exact (rfl : _ = ((23 : Nat) : Int)) | exact (rfl : _ = ((24 : Nat) : Int)) | exact (rfl : _ = ((25 : Nat) : Int)) | exact (rfl : _ = ((26 : Nat) : Int)) | exact (rfl : _ = ((27 : Nat) : Int)) | exact (rfl : _ = ((28 : Nat) : Int)) | exact (rfl : _ = ((29 : Nat) : Int)) | exact (rfl : _ = ((30 : Nat) : Int)) | exact (rfl : _ = ((31 : Nat) : Int)) | exact (rfl : _ = ((32 : Nat) : Int)) | exact (rfl : _ = ((33 : Nat) : Int)) | exact (rfl : _ = ((34 : Nat) : Int)) | exact (rfl : _ = ((35 : Nat) : Int)) | exact (rfl : _ = ((36 : Nat) : Int)) | exact (rfl : _ = ((37 : Nat) : Int)) | exact (rfl : _ = ((38 : Nat) : Int)) | exact (rfl : _ = ((39 : Nat) : Int)) | exact (rfl : _ = ((40 : Nat) : Int)) | exact (rfl : _ = ((41 : Nat) : Int)) | exact (rfl : _ = ((42 : Nat) : Int)) | exact (rfl : _ = ((43 : Nat) : Int)) | exact (rfl : _ = ((44 : Nat) : Int)) | exact (rfl : _ = ((45 : Nat) : Int)) | exact (rfl : _ = ((46 : Nat) : Int)) | exact (rfl : _ = ((47 : Nat) : Int)) | exact (rfl : _ = ((48 : Nat) : Int)) | exact (rfl : _ = ((49 : Nat) : Int)) | exact (rfl : _ = ((50 : Nat) : Int)) | exact (rfl : _ = ((51 : Nat) : Int)) | exact (rfl : _ = ((52 : Nat) : Int)) | exact (rfl : _ = ((53 : Nat) : Int)) | exact (rfl : _ = ((54 : Nat) : Int)) | exact (rfl : _ = ((55 : Nat) : Int)) | exact (rfl : _ = ((56 : Nat) : Int)) | exact (rfl : _ = ((57 : Nat) : Int)) | exact (rfl : _ = ((58 : Nat) : Int)) | exact (rfl : _ = ((59 : Nat) : Int)) | exact (rfl : _ = ((60 : Nat) : Int)) | exact (rfl : _ = ((61 : Nat) : Int)) | exact (rfl : _ = ((62 : Nat) : Int)) | exact (rfl : _ = ((63 : Nat) : Int)) | exact (rfl : _ = ((64 : Nat) : Int)) | exact (rfl : _ = ((128 : Nat) : Int)) | exact (rfl : _ = ((256 : Nat) : Int))); decide) | (apply PV.shlN; exact rfl; exact rfl; (first | exact (rfl : _ = ((0 : Nat) : Int)) | exact (rfl : _ = ((1 : Nat) : Int)) | exact (rfl : _ = ((2 : Nat) : Int)) | exact (rfl : _ = ((3 : Nat) : Int)) | exact (rfl : _ = ((4 : Nat) : Int)) | exact (rfl : _ = ((5 : Nat) : Int)) | exact (rfl : _ = ((6 : Nat) : Int)) | exact (rfl : _ = ((7 : Nat) : Int)) | exact (rfl : _ = ((8 : Nat) : Int)) | exact (rfl : _ = ((9 : Nat) : Int)) | exact (rfl : _ = ((10 : Nat) : Int)) | exact (rfl : _ = ((11 : Nat) : Int)) | exact (rfl : _ = ((12 : Nat) : Int)) | exact (rfl : _ = ((13 : Nat) : Int)) | exact (rfl : _ = ((14 : Nat) : Int)) | exact (rfl : _ = ((15 : Nat) : Int)) | exact (rfl : _ = ((16 : Nat) : Int)) | exact (rfl : _ = ((17 : Nat) : Int)) | exact (rfl : _ = ((18 : Nat) : Int)) | exact (rfl : _ = ((19 : Nat) : Int)) | exact (rfl : _ = ((20 : Nat) : Int)) | exact (rfl : _ = ((21 : Nat) : Int)) | exact (rfl : _ = ((22 : Nat) : Int)) | exact (rfl : _ = ((23 : Nat) : Int)) | exact (rfl : _ = ((24 : Nat) : Int)) | exact (rfl : _ = ((25 : Nat) : Int)) | exact (rfl : _ = ((26 : Nat) : Int)) | exact (rfl : _ = ((27 : Nat) : Int)) | exact (rfl : _ = ((28 : Nat) : Int)) | exact (rfl : _ = ((29 : Nat) : Int)) | exact (rfl : _ = ((30 : Nat) : Int)) | exact (rfl : _ = ((31 : Nat) : Int)) | exact (rfl : _ = ((32 : Nat) : Int)) | exact (rfl : _ = ((33 : Nat) : Int)) | exact (rfl : _ = ((34 : Nat) : Int)) | exact (rfl : _ = ((35 : Nat) : Int)) | exact (rfl : _ = ((36 : Nat) : Int)) | exact (rfl : _ = ((37 : Nat) : Int)) | exact (rfl : _ = ((38 : Nat) : Int)) | exact (rfl : _ = ((39 : Nat) : Int)) | exact (rfl : _ = ((40 : Nat) : Int)) | exact (rfl : _ = ((41 : Nat) : Int)) | exact (rfl : _ = ((42 : Nat) : Int)) | exact (rfl : _ = ((43 : Nat) : Int)) | exact (rfl : _ = ((44 : Nat) : Int)) | exact (rfl : _ = ((45 : Nat) : Int)) | exact (rfl : _ = ((46 : Nat) : Int)) | exact (rfl : _ = ((47 : Nat) : Int)) | exact (rfl : _ = ((48 : Nat) : Int)) | exact (rfl : _ = ((49 : Nat) : Int)) | exact (rfl : _ = ((50 : Nat) : Int)) | exact (rfl : _ = ((51 : Nat) : Int)) | exact (rfl : _ = ((52 : Nat) : Int)) | exact (rfl : _ = ((53 : Nat) : Int)) | exact (rfl : _ = ((54 : Nat) : Int)) | exact (rfl : _ = ((55 : Nat) : Int)) | exact (rfl : _ = ((56 : Nat) : Int)) | exact (rfl : _ = ((57 : Nat) : Int)) | exact (rfl : _ = ((58 : Nat) : Int)) | exact (rfl : _ = ((59 : Nat) : Int)) | exact (rfl : _ = ((60 : Nat) : Int)) | exact (rfl : _ = ((61 : Nat) : Int)) | exact (rfl : _ = ((62 : Nat) : Int)) | exact (rfl : _ = ((63 : Nat) : Int)) | exact (rfl : _ = ((64 : Nat) : Int)) | exact (rfl : _ = ((128 : Nat) : Int)) | exact (rfl : _ = ((256 : Nat) : Int))); decide; exact rfl) | (apply PV.remN; exact rfl; exact rfl; (first | exact (rfl : _ = ((0 : Nat) : Int)) | exact (rfl : _ = ((1 : Nat) : Int)) | exact (rfl : _ = ((2 : Nat) : Int)) | exact (rfl : _ = ((3 : Nat) : Int)) | exact (rfl : _ = ((4 : Nat) : Int)) | exact (rfl : _ = ((5 : Nat) : Int)) | exact (rfl : _ = ((6 : Nat) : Int)) | exact (rfl : _ = ((7 : Nat) : Int)) | exact (rfl : _ = ((8 : Nat) : Int)) | exact (rfl : _ = ((9 : Nat) : Int)) | exact (rfl : _ = ((10 : Nat) : Int)) | exact (rfl : _ = ((11 : Nat) : Int)) | exact (rfl : _ = ((12 : Nat) : Int)) | exact (rfl : _ = ((13 : Nat) : Int)) | exact (rfl : _ = ((14 : Nat) : Int)) | exact (rfl : _ = ((15 : Nat) : Int)) | exact (rfl : _ = ((16 : Nat) : Int)) | exact (rfl : _ = ((17 : Nat) : Int)) | exact (rfl : _ = ((18 : Nat) : Int)) | exact (rfl : _ = ((19 : Nat) : Int)) | exact (rfl : _ = ((20 : Nat) : Int)) | exact (rfl : _ = ((21 : Nat) : Int)) | exact (rfl : _ = ((22 : Nat) : Int)) | exact (rfl : _ = ((23 : Nat) : Int)) | exact (rfl : _ = ((24 : Nat) : Int)) | exact (rfl : _ = ((25 : Nat) : Int)) | exact (rfl : _ = ((26 : Nat) : Int)) | exact (rfl : _ = ((27 : Nat) : Int)) | exact (rfl : _ = ((28 : Nat) : Int)) | exact (rfl : _ = ((29 : Nat) : Int)) | exact (rfl : _ = ((30 : Nat) : Int)) | exact (rfl : _ = ((31 : Nat) : Int)) | exact (rfl : _ = ((32 : Nat) : Int)) | exact (rfl : _ = ((33 : Nat) : Int)) | exact (rfl : _ = ((34 : Nat) : Int)) | exact (rfl : _ = ((35 : Nat) : Int)) | exact (rfl : _ = ((36 : Nat) : Int)) | exact (rfl : _ = ((37 : Nat) : Int)) | exact (rfl : _ = ((38 : Nat) : Int)) | exact (rfl : _ = ((39 : Nat) : Int)) | exact (rfl : _ = ((40 : Nat) : Int)) | exact (rfl : _ = ((41 : Nat) : Int)) | exact (rfl : _ = ((42 : Nat) : Int)) | exact (rfl : _ = ((43 : Nat) : Int)) | exact (rfl : _ = ((44 : Nat) : Int)) | exact (rfl : _ = ((45 : Nat) : Int)) | exact (rfl : _ = ((46 : Nat) : Int)) | exact (rfl : _ = ((47 : Nat) : Int)) | exact (rfl : _ = ((48 : Nat) : Int)) | exact (rfl : _ = ((49 : Nat) : Int)) | exact (rfl : _ = ((50 : Nat) : Int)) | exact (rfl : _ = ((51 : Nat) : Int)) | exact (rfl : _ = ((52 : Nat) : Int)) | exact (rfl : _ = ((53 : Nat) : Int)) | exact (rfl : _ = ((54 : Nat) : Int)) | exact (rfl : _ = ((55 : Nat) : Int)) | exact (rfl : _ = ((56 : Nat) : Int)) | exact (rfl : _ = ((57 : Nat) : Int)) | exact (rfl : _ = ((58 : Nat) : Int)) | exact (rfl : _ = ((59 : Nat) : Int)) | exact (rfl : _ = ((60 : Nat) : Int)) | exact (rfl : _ = ((61 : Nat) : Int)) | exact (rfl : _ = ((62 : Nat) : Int)) | exact (rfl : _ = ((63 : Nat) : Int)) | exact (rfl : _ = ((64 : Nat) : Int)) | exact (rfl : _ = ((128 : Nat) : Int)) | exact (rfl : _ = ((256 : Nat) : Int))); decide) | (apply PV.rem; exact rfl; exact rfl; decide) | (apply PV.quo; exact rfl; exact rfl; decide) | (apply PV.min3; exact rfl; exact rfl; exact rfl) | (apply PV.min2; exact rfl; exact rfl) | (apply PV.max2; exact rfl; exact rfl) | (apply PV.eqS; exact rfl; exact rfl) | (apply PV.neS; exact rfl; exact rfl) | (apply PV.eqStr; exact rfl; exact rfl) | (apply PV.neStr; exact rfl; exact rfl) | (apply PV.neg; exact rfl) | (apply PV.eqMap; exact rfl; exact tb rfl; exact rfl) | (apply PV.neMap; exact rfl; exact tb rfl; exact rfl) | (apply PV.convBS; exact rfl; exact tb rfl; exact rfl; exact tb rfl; exact rfl; exact tb rfl; exact rfl; (first | (focus ((repeat (first | assumption | apply has_tls)); done)) | exact has_bs 0 rfl | exact has_bs 1 rfl | exact has_bs 2 rfl | exact has_bs 3 rfl | exact has_bs 4 rfl | exact has_bs 5 rfl | exact has_src_row 0 rfl rfl | exact has_src_row 1 rfl rfl | exact has_src_row 2 rfl rfl | exact has_src_row 3 rfl rfl | exact has_srcnil _ _)) | (apply PV.indexAddr; exact rfl; exact rfl; exact tb rfl; exact rfl; exact tb rfl; omega; omega; (first | (simp only [Int.toNat_natCast, Nat.mul_one, Nat.zero_add]; exact rfl) | exact rfl)) | (apply PV.indexAddrArr; exact rfl; exact rfl; exact tb rfl; exact rfl; exact tb rfl; omega; omega; (first | (simp only [Int.toNat_natCast, Nat.mul_one, Nat.zero_add]; exact rfl) | exact rfl)) | (apply PV.indexArr; exact rfl; exact rfl; exact tb rfl; exact rfl; exact tb rfl; exact rfl; exact rfl; omega; assumption))) | (apply TB.takeP at_; exact rfl; exact rfl; kernel_rfl; (focus ((repeat (first | assumption | exact Ent.refl _ | apply Ent.tail)); done)); (first | (apply PV.moveE; (first | exact (rfl : _ = w32 _) | exact (rfl : _ = Value.int _ _) | exact (rfl : _ = Value.slice _ _ _) | exact (rfl : _ = Value.pointer (some ⟨_, _, _⟩)) | exact (rfl : _ = Value.bool _) | exact (rfl : _ = Value.pointer none) | exact (rfl : _ = Value.string _) | exact (rfl : _ = Value.agg _) | exact (rfl : _ = Value.tuple _) | exact (rfl : _ = Value.func _ _ _) | exact (rfl : _ = Value.map _) | exact (rfl : _ = Value.iface _ _) | exact (rfl : _ = Value.nilIface) | exact (rfl : _ = Value.nilFunc) | exact rfl)) | (apply PV.assignE; (first | exact (rfl : _ = w32 _) | exact (rfl : _ = Value.int _ _) | exact (rfl : _ = Value.slice _ _ _) | exact (rfl : _ = Value.pointer (some ⟨_, _, _⟩)) | exact (rfl : _ = Value.bool _) | exact (rfl : _ = Value.pointer none) | exact (rfl : _ = Value.string _) | exact (rfl : _ = Value.agg _) | exact (rfl : _ = Value.tuple _) | exact (rfl : _ = Value.func _ _ _) | exact (rfl : _ = Value.map _) | exact (rfl : _ = Value.iface _ _) | exact (rfl : _ = Value.nilIface) | exact (rfl : _ = Value.nilFunc) | exact rfl)) | (apply PV.lenSlice; exact rfl; exact tb rfl; exact rfl) | (apply PV.addW; exact rfl; exact rfl) | (apply PV.xorW; exact rfl; exact rfl) | (apply PV.andW; exact rfl; exact rfl) | (apply PV.orW; exact rfl; exact rfl) | (apply PV.notW; exact rfl) | (apply PV.shrW; exact rfl; exact rfl; (first | exact (rfl : _ = ((0 : Nat) : Int)) | exact (rfl : _ = ((1 : Nat) : Int)) | exact (rfl : _ = ((2 : Nat) : Int)) | exact (rfl : _ = ((3 : Nat) : Int)) | exact (rfl : _ = ((4 : Nat) : Int)) | exact (rfl : _ = ((5 : Nat) : Int)) | exact (rfl : _ = ((6 : Nat) : Int)) | exact (rfl : _ = ((7 : Nat) : Int)) | exact (rfl : _ = ((8 : Nat) : Int)) | exact (rfl : _ = ((9 : Nat) : Int)) | exact (rfl : _ = ((10 : Nat) : Int)) | exact (rfl : _ = ((11 : Nat) : Int)) | exact (rfl : _ = ((12 : Nat) : Int)) | exact (rfl : _ = ((13 : Nat) : Int)) | exact (rfl : _ = ((14 : Nat) : Int)) | exact (rfl : _ = ((15 : Nat) : Int)) | exact (rfl : _ = ((16 : Nat) : Int)) | exact (rfl : _ = ((17 : Nat) : Int)) | exact (rfl : _ = ((18 : Nat) : Int)) | exact (rfl : _ = ((19 : Nat) : Int)) | exact (rfl : _ = ((20 : Nat) : Int)) | exact (rfl : _ = ((21 : Nat) : Int)) | exact (rfl : _ = ((22 : Nat) : Int)) | exact (rfl : _ = ((23 : Nat) : Int)) | exact (rfl : _ = ((24 : Nat) : Int)) | exact (rfl : _ = ((25 : Nat) : Int)) | exact (rfl : _ = ((26 : Nat) : Int)) | exact (rfl : _ = ((27 : Nat) : Int)) | exact (rfl : _ = ((28 : Nat) : Int)) | exact (rfl : _ = ((29 : Nat) : Int)) | exact (rfl : _ = ((30 : Nat) : Int)) | exact (rfl : _ = ((31 : Nat) : Int)) | exact (rfl : _ = ((32 : Nat) : Int)) | exact (rfl : _ = ((33 : Nat) : Int)) | exact (rfl : _ = ((34 : Nat) : Int)) | exact (rfl : _ = ((35 : Nat) : Int)) | exact (rfl : _ = ((36 : Nat) : Int)) | exact (rfl : _ = ((37 : Nat) : Int)) | exact (rfl : _ = ((38 : Nat) : Int)) | exact (rfl : _ = ((39 : Nat) : Int)) | exact (rfl : _ = ((40 : Nat) : Int)) | exact (rfl : _ = ((41 : Nat) : Int)) | exact (rfl : _ = ((42 : Nat) : Int)) | exact (rfl : _ = ((43 : Nat) : Int)) | exact (rfl : _ = ((44 : Nat) : Int)) | exact (rfl : _ = ((45 : Nat) : Int)) | exact (rfl : _ = ((46 : Nat) : Int)) | exact (rfl : _ = ((47 : Nat) : Int)) | exact (rfl : _ = ((48 : Nat) : Int)) | exact (rfl : _ = ((49 : Nat) : Int)) | exact (rfl : _ = ((50 : Nat) : Int)) | exact (rfl : _ = ((51 : Nat) : Int)) | exact (rfl : _ = ((52 : Nat) : Int)) | exact (rfl : _ = ((53 : Nat) : Int)) | exact (rfl : _ = ((54 : Nat) : Int)) | exact (rfl : _ = ((55 : Nat) : Int)) | exact (rfl : _ = ((56 : Nat) : Int)) | exact (rfl : _ = ((57 : Nat) : Int)) | exact (rfl : _ = ((58 : Nat) : Int)) | exact (rfl : _ = ((59 : Nat) : Int)) | exact (rfl : _ = ((60 : Nat) : Int)) | exact (rfl : _ = ((61 : Nat) : Int)) | exact (rfl : _ = ((62 : Nat) : Int)) | exact (rfl : _ = ((63 : Nat) : Int)) | exact (rfl : _ = ((64 : Nat) : Int)) | exact (rfl : _ = ((128 : Nat) : Int)) | exact (rfl : _ = ((256 : Nat) : Int))); decide) | (apply PV.shlW; exact rfl; exact rfl; (first | exact (rfl : _ = ((0 : Nat) : Int)) | exact (rfl : _ = ((1 : Nat) : Int)) | exact (rfl : _ = ((2 : Nat) : Int)) | exact (rfl : _ = ((3 : Nat) : Int)) | exact (rfl : _ = ((4 : Nat) : Int)) | exact (rfl : _ = ((5 : Nat) : Int)) | exact (rfl : _ = ((6 : Nat) : Int)) | exact (rfl : _ = ((7 : Nat) : Int)) | exact (rfl : _ = ((8 : Nat) : Int)) | exact (rfl : _ = ((9 : Nat) : Int)) | exact (rfl : _ = ((10 : Nat) : Int)) | exact (rfl : _ = ((11 : Nat) : Int)) | exact (rfl : _ = ((12 : Nat) : Int)) | exact (rfl : _ = ((13 : Nat) : Int)) | exact (rfl : _ = ((14 : Nat) : Int)) | exact (rfl : _ = ((15 : Nat) : Int)) | exact (rfl : _ = ((16 : Nat) : Int)) | exact (rfl : _ = ((17 : Nat) : Int)) | exact (rfl : _ = ((18 : Nat) : Int)) | exact (rfl : _ = ((19 : Nat) : Int)) | exact (rfl : _ = ((20 : Nat) : Int)) | exact (rfl : _ = ((21 : Nat) : Int)) | exact (rfl : _ = ((22 : Nat) : Int)) | exact (rfl : _ = ((23 : Nat) : Int)) | exact (rfl : _ = ((24 : Nat) : Int)) | exact (rfl : _ = ((25 : Nat) : Int)) | exact (rfl : _ = ((26 : Nat) : Int)) | exact (rfl : _ = ((27 : Nat) : Int)) | exact (rfl : _ = ((28 : Nat) : Int)) | exact (rfl : _ = ((29 : Nat) : Int)) | exact (rfl : _ = ((30 : Nat) : Int)) | exact (rfl : _ = ((31 : Nat) : Int)) | exact (rfl : _ = ((32 : Nat) : Int)) | exact (rfl : _ = ((33 : Nat) : Int)) | exact (rfl : _ = ((34 : Nat) : Int)) | exact (rfl : _ = ((35 : Nat) : Int)) | exact (rfl : _ = ((36 : Nat) : Int)) | exact (rfl : _ = ((37 : Nat) : Int)) | exact (rfl : _ = ((38 : Nat) : Int)) | exact (rfl : _ = ((39 : Nat) : Int)) | exact (rfl : _ = ((40 : Nat) : Int)) | exact (rfl : _ = ((41 : Nat) : Int)) | exact (rfl : _ = ((42 : Nat) : Int)) | exact (rfl : _ = ((43 : Nat) : Int)) | exact (rfl : _ = ((44 : Nat) : Int)) | exact (rfl : _ = ((45 : Nat) : Int)) | exact (rfl : _ = ((46 : Nat) : Int)) | exact (rfl : _ = ((47 : Nat) : Int)) | exact (rfl : _ = ((48 : Nat) : Int)) | exact (rfl : _ = ((49 : Nat) : Int)) | exact (rfl : _ = ((50 : Nat) : Int)) | exact (rfl : _ = ((51 : Nat) : Int)) | exact (rfl : _ = ((52 : Nat) : Int)) | exact (rfl : _ = ((53 : Nat) : Int)) | exact (rfl : _ = ((54 : Nat) : Int)) | exact (rfl : _ = ((55 : Nat) : Int)) | exact (rfl : _ = ((56 : Nat) : Int)) | exact (rfl : _ = ((57 : Nat) : Int)) | exact (rfl : _ = ((58 : Nat) : Int)) | exact (rfl : _ = ((59 : Nat) : Int)) | exact (rfl : _ = ((60 : Nat) : Int)) | exact (rfl : _ = ((61 : Nat) : Int)) | exact (rfl : _ = ((62 : Nat) : Int)) | exact (rfl : _ = ((63 : Nat) : Int)) | exact (rfl : _ = ((64 : Nat) : Int)) | exact (rfl : _ = ((128 : Nat) : Int)) | exact (rfl : _ = ((256 : Nat) : Int))); decide) | (apply PV.conv8W; exact rfl; exact tb rfl; exact tb rfl; exact rfl) | (apply PV.convW8; exact rfl; exact tb rfl; exact tb rfl; exact rfl) | (apply PV.compare; exact rfl; exact rfl; exact rfl) | (apply PV.arith; exact rfl; exact rfl; exact rfl) | (apply PV.fieldAddr; exact rfl; exact tb rfl; exact rfl; exact rfl; exact tb rfl; exact rfl; (first | exact (rfl : _ = 0) | exact (rfl : _ = 1) | exact (rfl : _ = 2) | exact (rfl : _ = 3) | exact (rfl : _ = 4) | exact (rfl : _ = 5) | exact (rfl : _ = 6) | exact (rfl : _ = 7) | exact (rfl : _ = 8) | exact (rfl : _ = 9) | exact (rfl : _ = 10) | exact (rfl : _ = 11) | exact (rfl : _ = 12) | exact (rfl : _ = 13) | exact (rfl : _ = 14) | exact (rfl : _ = 15) | exact (rfl : _ = 16) | exact (rfl : _ = 17) | exact (rfl : _ = 18) | exact (rfl : _ = 19) | exact (rfl : _ = 20) | exact (rfl : _ = 21) | exact (rfl : _ = 22) | exact (rfl : _ = 23) | exact (rfl : _ = 24) | exact (rfl : _ = 25) | exact (rfl : _ = 26) | exact (rfl : _ = 27) | exact (rfl : _ = 28) | exact (rfl : _ = 29) | exact (rfl : _ = 30) | exact (rfl : _ = 31) | exact (rfl : _ = 32) | exact (rfl : _ = 33) | exact (rfl : _ = 34) | exact (rfl : _ = 35) | exact (rfl : _ = 36) | exact (rfl : _ = 37) | exact (rfl : _ = 38) | exact (rfl : _ = 39) | exact (rfl : _ = 40) | exact (rfl : _ = 64) | exact (rfl : _ = 128) | exact rfl); (first | exact (rfl : _ = 0) | exact (rfl : _ = 1) | exact (rfl : _ = 2) | exact (rfl : _ = 3) | exact (rfl : _ = 4) | exact (rfl : _ = 5) | exact (rfl : _ = 6) | exact (rfl : _ = 7) | exact (rfl : _ = 8) | exact (rfl : _ = 9) | exact (rfl : _ = 10) | exact (rfl : _ = 11) | exact (rfl : _ = 12) | exact (rfl : _ = 13) | exact (rfl : _ = 14) | exact (rfl : _ = 15) | exact (rfl : _ = 16) | exact (rfl : _ = 17) | exact (rfl : _ = 18) | exact (rfl : _ = 19) | exact (rfl : _ = 20) | exact (rfl : _ = 21) | exact (rfl : _ = 22) | exact (rfl : _ = 23) | exact (rfl : _ = 24) | exact (rfl : _ = 25) | exact (rfl : _ = 26) | exact (rfl : _ = 27) | exact (rfl : _ = 28) | exact (rfl : _ = 29) | exact (rfl : _ = 30) | exact (rfl : _ = 31) | exact (rfl : _ = 32) | exact (rfl : _ = 33) | exact (rfl : _ = 34) | exact (rfl : _ = 35) | exact (rfl : _ = 36) | exact (rfl : _ = 37) | exact (rfl : _ = 38) | exact (rfl : _ = 39) | exact (rfl : _ = 40) | exact (rfl : _ = 64) | exact (rfl : _ = 128) | exact rfl)) | (apply PV.nilCheck; exact rfl) | (apply PV.not; exact rfl) | (apply PV.pickE; exact rfl; (first | exact (rfl : _ = w32 _) | exact (rfl : _ = Value.int _ _) | exact (rfl : _ = Value.slice _ _ _) | exact (rfl : _ = Value.pointer (some ⟨_, _, _⟩)) | exact (rfl : _ = Value.bool _) | exact (rfl : _ = Value.pointer none) | exact (rfl : _ = Value.string _) | exact (rfl : _ = Value.agg _) | exact (rfl : _ = Value.tuple _) | exact (rfl : _ = Value.func _ _ _) | exact (rfl : _ = Value.map _) | exact (rfl : _ = Value.iface _ _) | exact (rfl : _ = Value.nilIface) | exact (rfl : _ = Value.nilFunc) | exact rfl)) | (apply PV.load; exact rfl; exact tb rfl; exact rfl; (first | assumption | exact has_row 0 rfl rfl | exact has_row 1 rfl rfl | exact has_row 2 rfl rfl | exact has_row 3 rfl rfl | exact has_row 4 rfl rfl | exact has_row 5 rfl rfl | exact has_row 6 rfl rfl | (focus ((repeat (first | assumption | apply has_tlc)); done)))) | (apply PV.extract; exact rfl; (first | exact (rfl : _ = w32 _) | exact (rfl : _ = Value.int _ _) | exact (rfl : _ = Value.slice _ _ _) | exact (rfl : _ = Value.pointer (some ⟨_, _, _⟩)) | exact (rfl : _ = Value.bool _) | exact (rfl : _ = Value.pointer none) | exact (rfl : _ = Value.string _) | exact (rfl : _ = Value.agg _) | exact (rfl : _ = Value.tuple _) | exact (rfl : _ = Value.func _ _ _) | exact (rfl : _ = Value.map _) | exact (rfl : _ = Value.iface _ _) | exact (rfl : _ = Value.nilIface) | exact (rfl : _ = Value.nilFunc) | exact rfl)) | (apply PV.loadRow 0; exact rfl; exact rfl; exact tb rfl; exact rfl; (first | exact (rfl : _ = []) | exact (rfl : _ = [_]) | exact (rfl : _ = [_, _]) | exact (rfl : _ = [_, _, _]) | exact (rfl : _ = [_, _, _, _]) | exact (rfl : _ = [_, _, _, _, _]) | exact (rfl : _ = [_, _, _, _, _, _]) | exact (rfl : _ = [_, _, _, _, _, _, _]) | exact (rfl : _ = [_, _, _, _, _, _, _, _]) | exact (rfl : _ = [_, _, _, _, _, _, _, _, _]) | exact (rfl : _ = [_, _, _, _, _, _, _, _, _, _]) | exact (rfl : _ = [_, _, _, _, _, _, _, _, _, _, _]) | exact rfl); exact rfl) | (apply PV.loadRow 1; exact rfl; exact rfl; exact tb rfl; exact rfl; (first | exact (rfl : _ = []) | exact (rfl : _ = [_]) | exact (rfl : _ = [_, _]) | exact (rfl : _ = [_, _, _]) | exact (rfl : _ = [_, _, _, _]) | exact (rfl : _ = [_, _, _, _, _]) | exact (rfl : _ = [_, _, _, _, _, _]) | exact (rfl : _ = [_, _, _, _, _, _, _]) | exact (rfl : _ = [_, _, _, _, _, _, _, _]) | exact (rfl : _ = [_, _, _, _, _, _, _, _, _]) | exact (rfl : _ = [_, _, _, _, _, _, _, _, _, _]) | exact (rfl : _ = [_, _, _, _, _, _, _, _, _, _, _]) | exact rfl); exact rfl) | (apply PV.loadRow 2; exact rfl; exact rfl; exact tb rfl; exact rfl; (first | exact (rfl : _ = []) | exact (rfl : _ = [_]) | exact (rfl : _ = [_, _]) | exact (rfl : _ = [_, _, _]) | exact (rfl : _ = [_, _, _, _]) | exact (rfl : _ = [_, _, _, _, _]) | exact (rfl : _ = [_, _, _, _, _, _]) | exact (rfl : _ = [_, _, _, _, _, _, _]) | exact (rfl : _ = [_, _, _, _, _, _, _, _]) | exact (rfl : _ = [_, _, _, _, _, _, _, _, _]) | exact (rfl : _ = [_, _, _, _, _, _, _, _, _, _]) | exact (rfl : _ = [_, _, _, _, _, _, _, _, _, _, _]) | exact rfl); exact rfl) | (apply PV.loadRow 3; exact rfl; exact rfl; exact tb rfl; exact rfl; (first | exact (rfl : _ = []) | exact (rfl : _ = [_]) | exact (rfl : _ = [_, _]) | exact (rfl : _ = [_, _, _]) | exact (rfl : _ = [_, _, _, _]) | exact (rfl : _ = [_, _, _, _, _]) | exact (rfl : _ = [_, _, _, _, _, _]) | exact (rfl : _ = [_, _, _, _, _, _, _]) | exact (rfl : _ = [_, _, _, _, _, _, _, _]) | exact (rfl : _ = [_, _, _, _, _, _, _, _, _]) | exact (rfl : _ = [_, _, _, _, _, _, _, _, _, _]) | exact (rfl : _ = [_, _, _, _, _, _, _, _, _, _, _]) | exact rfl); exact rfl) | (apply PV.loadRow 4; exact rfl; exact rfl; exact tb rfl; exact rfl; (first | exact (rfl : _ = []) | exact (rfl : _ = [_]) | exact (rfl : _ = [_, _]) | exact (rfl : _ = [_, _, _]) | exact (rfl : _ = [_, _, _, _]) | exact (rfl : _ = [_, _, _, _, _]) | exact (rfl : _ = [_, _, _, _, _, _]) | exact (rfl : _ = [_, _, _, _, _, _, _]) | exact (rfl : _ = [_, _, _, _, _, _, _, _]) | exact (rfl : _ = [_, _, _, _, _, _, _, _, _]) | exact (rfl : _ = [_, _, _, _, _, _, _, _, _, _]) | exact (rfl : _ = [_, _, _, _, _, _, _, _, _, _, _]) | exact rfl); exact rfl) | (apply PV.loadRow 5; exact rfl; exact rfl; exact tb rfl; exact rfl; (first | exact (rfl : _ = []) | exact (rfl : _ = [_]) | exact (rfl : _ = [_, _]) | exact (rfl : _ = [_, _, _]) | exact (rfl : _ = [_, _, _, _]) | exact (rfl : _ = [_, _, _, _, _]) | exact (rfl : _ = [_, _, _, _, _, _]) | exact (rfl : _ = [_, _, _, _, _, _, _]) | exact (rfl : _ = [_, _, _, _, _, _, _, _]) | exact (rfl : _ = [_, _, _, _, _, _, _, _, _]) | exact (rfl : _ = [_, _, _, _, _, _, _, _, _, _]) | exact (rfl : _ = [_, _, _, _, _, _, _, _, _, _, _]) | exact rfl); exact rfl) | (apply PV.loadAggH; exact rfl; exact tb rfl; exact rfl; (first | assumption | exact has_rows 0 rfl rfl | exact has_rows 1 rfl rfl | exact has_rows 2 rfl rfl | exact has_rows 3 rfl rfl | (focus ((repeat (first | assumption | apply has_tlg)); done))); exact rfl) | (apply PV.eqPtr; exact rfl; exact tb rfl; exact rfl) | (apply PV.nePtr; exact rfl; exact tb rfl; exact rfl) | (apply PV.eqSlice; exact rfl; exact tb rfl; exact rfl) | (apply PV.neSlice; exact rfl; exact tb rfl; exact rfl) | (apply PV.conv; exact rfl; exact tb rfl; exact tb rfl; exact rfl) | (apply PV.eqBool; exact rfl; exact rfl; exact tb rfl; exact rfl) | (apply PV.neBool; exact rfl; exact rfl; exact tb rfl; exact rfl) | (apply PV.lenS; exact rfl; exact tb rfl; exact rfl) | (apply PV.lenStr; exact rfl; exact tb rfl; exact rfl) | (apply PV.indexS; exact rfl; exact rfl; exact tb rfl; exact rfl; assumption) | (apply PV.lenArray; exact tb rfl; exact rfl) | (apply PV.capSlice; exact rfl; exact tb rfl; exact rfl) | (apply PV.andM; exact rfl; exact rfl; (first | exact (rfl : _ = ((2 ^ 1 - 1 : Nat) : Int)) | exact (rfl : _ = ((2 ^ 2 - 1 : Nat) : Int)) | exact (rfl : _ = ((2 ^ 3 - 1 : Nat) : Int)) | exact (rfl : _ = ((2 ^ 4 - 1 : Nat) : Int)) | exact (rfl : _ = ((2 ^ 5 - 1 : Nat) : Int)) | exact (rfl : _ = ((2 ^ 6 - 1 : Nat) : Int)) | exact (rfl : _ = ((2 ^ 7 - 1 : Nat) : Int)) | exact (rfl : _ = ((2 ^ 8 - 1 : Nat) : Int)) | exact (rfl : _ = ((2 ^ 16 - 1 : Nat) : Int)) | exact (rfl : _ = ((2 ^ 32 - 1 : Nat) : Int))); decide; exact rfl) | (apply PV.bits; exact rfl; exact rfl; exact rfl) | (apply PV.shrN; exact rfl; exact rfl; (first | exact (rfl : _ = ((0 : Nat) : Int)) | exact (rfl : _ = ((1 : Nat) : Int)) | exact (rfl : _ = ((2 : Nat) : Int)) | exact (rfl : _ = ((3 : Nat) : Int)) | exact (rfl : _ = ((4 : Nat) : Int)) | exact (rfl : _ = ((5 : Nat) : Int)) | exact (rfl : _ = ((6 : Nat) : Int)) | exact (rfl : _ = ((7 : Nat) : Int)) | exact (rfl : _ = ((8 : Nat) : Int)) | exact (rfl : _ = ((9 : Nat) : Int)) | exact (rfl : _ = ((10 : Nat) : Int)) | exact (rfl : _ = ((11 : Nat) : Int)) | exact (rfl : _ = ((12 : Nat) : Int)) | exact (rfl : _ = ((13 : Nat) : Int)) | exact (rfl : _ = ((14 : Nat) : Int)) | exact (rfl : _ = ((15 : Nat) : Int)) | exact (rfl : _ = ((16 : Nat) : Int)) | exact (rfl : _ = ((17 : Nat) : Int)) | exact (rfl : _ = ((18 : Nat) : Int)) | exact (rfl : _ = ((19 : Nat) : Int)) | exact (rfl : _ = ((20 : Nat) : Int)) | exact (rfl : _ = ((21 : Nat) : Int)) | exact (rfl : _ = ((22 : Nat) : Int)) | exact (rfl : _ = ((23 : Nat) : Int)) | exact (rfl : _ = ((24 : Nat) : Int)) | exact (rfl : _ = ((25 : Nat) : Int)) | exact (rfl : _ = ((26 : Nat) : Int)) | exact (rfl : _ = ((27 : Nat) : Int)) | exact (rfl : _ = ((28 : Nat) : Int)) | exact (rfl : _ = ((29 : Nat) : Int)) | exact (rfl : _ = ((30 : Nat) : Int)) | exact (rfl : _ = ((31 : Nat) : Int)) | exact (rfl : _ = ((32 : Nat) : Int)) | exact (rfl : _ = ((33 : Nat) : Int)) | exact (rfl : _ = ((34 : Nat) : Int)) | exact (rfl : _ = ((35 : Nat) : Int)) | exact (rfl : _ = ((36 : Nat) : Int)) | exact (rfl : _ = ((37 : Nat) : Int)) | exact (rfl : _ = ((38 : Nat) : Int)) | exact (rfl : _ = ((39 : Nat) : Int)) | exact (rfl : _ = ((40 : Nat) : Int)) | exact (rfl : _ = ((41 : Nat) : Int)) | exact (rfl : _ = ((42 : Nat) : Int)) | exact (rfl : _ = ((43 : Nat) : Int)) | exact (rfl : _ = ((44 : Nat) : Int)) | exact (rfl : _ = ((45 : Nat) : Int)) | exact (rfl : _ = ((46 : Nat) : Int)) | exact (rfl : _ = ((47 : Nat) : Int)) | exact (rfl : _ = ((48 : Nat) : Int)) | exact (rfl : _ = ((49 : Nat) : Int)) | exact (rfl : _ = ((50 : Nat) : Int)) | exact (rfl : _ = ((51 : Nat) : Int)) | exact (rfl : _ = ((52 : Nat) : Int)) | exact (rfl : _ = ((53 : Nat) : Int)) | exact (rfl : _ = ((54 : Nat) : Int)) | exact (rfl : _ = ((55 : Nat) : Int)) | exact (rfl : _ = ((56 : Nat) : Int)) | exact (rfl : _ = ((57 : Nat) : Int)) | exact (rfl : _ = ((58 : Nat) : Int)) | exact (rfl : _ = ((59 : Nat) : Int)) | exact (rfl : _ = ((60 : Nat) : Int)) | exact (rfl : _ = ((61 : Nat) : Int)) | exact (rfl : _ = ((62 : Nat) : Int)) | exact (rfl : _ = ((63 : Nat) : Int)) | exact (rfl : _ = ((64 : Nat) : Int)) | exact (rfl : _ = ((128 : Nat) : Int)) | exact (rfl : _ = ((256 : Nat) : Int))); decide) | (apply PV.shlN; exact rfl; exact rfl; (first | exact (rfl : _ = ((0 : Nat) : Int)) | exact (rfl : _ = ((1 : Nat) : Int)) | exact (rfl : _ = ((2 : Nat) : Int)) | exact (rfl : _ = ((3 : Nat) : Int)) | exact (rfl : _ = ((4 : Nat) : Int)) | exact (rfl : _ = ((5 : Nat) : Int)) | exact (rfl : _ = ((6 : Nat) : Int)) | exact (rfl : _ = ((7 : Nat) : Int)) | exact (rfl : _ = ((8 : Nat) : Int)) | exact (rfl : _ = ((9 : Nat) : Int)) | exact (rfl : _ = ((10 : Nat) : Int)) | exact (rfl : _ = ((11 : Nat) : Int)) | exact (rfl : _ = ((12 : Nat) : Int)) | exact (rfl : _ = ((13 : Nat) : Int)) | exact (rfl : _ = ((14 : Nat) : Int)) | exact (rfl : _ = ((15 : Nat) : Int)) | exact (rfl : _ = ((16 : Nat) : Int)) | exact (rfl : _ = ((17 : Nat) : Int)) | exact (rfl : _ = ((18 : Nat) : Int)) | exact (rfl : _ = ((19 : Nat) : Int)) | exact (rfl : _ = ((20 : Nat) : Int)) | exact (rfl : _ = ((21 : Nat) : Int)) | exact (rfl : _ = ((22 : Nat) : Int)) | exact (rfl : _ = ((23 : Nat) : Int)) | exact (rfl : _ = ((24 : Nat) : Int)) | exact (rfl : _ = ((25 : Nat) : Int)) | exact (rfl : _ = ((26 : Nat) : Int)) | exact (rfl : _ = ((27 : Nat) : Int)) | exact (rfl : _ = ((28 : Nat) : Int)) | exact (rfl : _ = ((29 : Nat) : Int)) | exact (rfl : _ = ((30 : Nat) : Int)) | exact (rfl : _ = ((31 : Nat) : Int)) | exact (rfl : _ = ((32 : Nat) : Int)) | exact (rfl : _ = ((33 : Nat) : Int)) | exact (rfl : _ = ((34 : Nat) : Int)) | exact (rfl : _ = ((35 : Nat) : Int)) | exact (rfl : _ = ((36 : Nat) : Int)) | exact (rfl : _ = ((37 : Nat) : Int)) | exact (rfl : _ = ((38 : Nat) : Int)) | exact (rfl : _ = ((39 : Nat) : Int)) | exact (rfl : _ = ((40 : Nat) : Int)) | exact (rfl : _ = ((41 : Nat) : Int)) | exact (rfl : _ = ((42 : Nat) : Int)) | exact (rfl : _ = ((43 : Nat) : Int)) | exact (rfl : _ = ((44 : Nat) : Int)) | exact (rfl : _ = ((45 : Nat) : Int)) | exact (rfl : _ = ((46 : Nat) : Int)) | exact (rfl : _ = ((47 : Nat) : Int)) | exact (rfl : _ = ((48 : Nat) : Int)) | exact (rfl : _ = ((49 : Nat) : Int)) | exact (rfl : _ = ((50 : Nat) : Int)) | exact (rfl : _ = ((51 : Nat) : Int)) | exact (rfl : _ = ((52 : Nat) : Int)) | exact (rfl : _ = ((53 : Nat) : Int)) | exact (rfl : _ = ((54 : Nat) : Int)) | exact (rfl : _ = ((55 : Nat) : Int)) | exact (rfl : _ = ((56 : Nat) : Int)) | exact (rfl : _ = ((57 : Nat) : Int)) | exact (rfl : _ = ((58 : Nat) : Int)) | exact (rfl : _ = ((59 : Nat) : Int)) | exact (rfl : _ = ((60 : Nat) : Int)) | exact (rfl : _ = ((61 : Nat) : Int)) | exact (rfl : _ = ((62 : Nat) : Int)) | exact (rfl : _ = ((63 : Nat) : Int)) | exact (rfl : _ = ((64 : Nat) : Int)) | exact (rfl : _ = ((128 : Nat) : Int)) | exact (rfl : _ = ((256 : Nat) : Int))); decide; exact rfl) | (apply PV.remN; exact rfl; exact rfl; (first | exact (rfl : _ = ((0 : Nat) : Int)) | exact (rfl : _ = ((1 : Nat) : Int)) | exact (rfl : _ = ((2 : Nat) : Int)) | exact (rfl : _ = ((3 : Nat) : Int)) | exact (rfl : _ = ((4 : Nat) : Int)) | exact (rfl : _ = ((5 : Nat) : Int)) | exact (rfl : _ = ((6 : Nat) : Int)) | exact (rfl : _ = ((7 : Nat) : Int)) | exact (rfl : _ = ((8 : Nat) : Int)) | exact (rfl : _ = ((9 : Nat) : Int)) | exact (rfl : _ = ((10 : Nat) : Int)) | exact (rfl : _ = ((11 : Nat) : Int)) | exact (rfl : _ = ((12 : Nat) : Int)) | exact (rfl : _ = ((13 : Nat) : Int)) | exact (rfl : _ = ((14 : Nat) : Int)) | exact (rfl : _ = ((15 : Nat) : Int)) | exact (rfl : _ = ((16 : Nat) : Int)) | exact (rfl : _ = ((17 : Nat) : Int)) | exact (rfl : _ = ((18 : Nat) : Int)) | exact (rfl : _ = ((19 : Nat) : Int)) | exact (rfl : _ = ((20 : Nat) : Int)) | exact (rfl : _ = ((21 : Nat) : Int)) | exact (rfl : _ = ((22 : Nat) : Int)) | exact (rfl : _ = ((23 : Nat) : Int)) | exact (rfl : _ = ((24 : Nat) : Int)) | exact (rfl : _ = ((25 : Nat) : Int)) | exact (rfl : _ = ((26 : Nat) : Int)) | exact (rfl : _ = ((27 : Nat) : Int)) | exact (rfl : _ = ((28 : Nat) : Int)) | exact (rfl : _ = ((29 : Nat) : Int)) | exact (rfl : _ = ((30 : Nat) : Int)) | exact (rfl : _ = ((31 : Nat) : Int)) | exact (rfl : _ = ((32 : Nat) : Int)) | exact (rfl : _ = ((33 : Nat) : Int)) | exact (rfl : _ = ((34 : Nat) : Int)) | exact (rfl : _ = ((35 : Nat) : Int)) | exact (rfl : _ = ((36 : Nat) : Int)) | exact (rfl : _ = ((37 : Nat) : Int)) | exact (rfl : _ = ((38 : Nat) : Int)) | exact (rfl : _ = ((39 : Nat) : Int)) | exact (rfl : _ = ((40 : Nat) : Int)) | exact (rfl : _ = ((41 : Nat) : Int)) | exact (rfl : _ = ((42 : Nat) : Int)) | exact (rfl : _ = ((43 : Nat) : Int)) | exact (rfl : _ = ((44 : Nat) : Int)) | exact (rfl : _ = ((45 : Nat) : Int)) | exact (rfl : _ = ((46 : Nat) : Int)) | exact (rfl : _ = ((47 : Nat) : Int)) | exact (rfl : _ = ((48 : Nat) : Int)) | exact (rfl : _ = ((49 : Nat) : Int)) | exact (rfl : _ = ((50 : Nat) : Int)) | exact (rfl : _ = ((51 : Nat) : Int)) | exact (rfl : _ = ((52 : Nat) : Int)) | exact (rfl : _ = ((53 : Nat) : Int)) | exact (rfl : _ = ((54 : Nat) : Int)) | exact (rfl : _ = ((55 : Nat) : Int)) | exact (rfl : _ = ((56 : Nat) : Int)) | exact (rfl : _ = ((57 : Nat) : Int)) | exact (rfl : _ = ((58 : Nat) : Int)) | exact (rfl : _ = ((59 : Nat) : Int)) | exact (rfl : _ = ((60 : Nat) : Int)) | exact (rfl : _ = ((61 : Nat) : Int)) | exact (rfl : _ = ((62 : Nat) : Int)) | exact (rfl : _ = ((63 : Nat) : Int)) | exact (rfl : _ = ((64 : Nat) : Int)) | exact (rfl : _ = ((128 : Nat) : Int)) | exact (rfl : _ = ((256 : Nat) : Int))); decide) | (apply PV.rem; exact rfl; exact rfl; decide) | (apply PV.quo; exact rfl; exact rfl; decide) | (apply PV.min3; exact rfl; exact rfl; exact rfl) | (apply PV.min2; exact rfl; exact rfl) | (apply PV.max2; exact rfl; exact rfl) | (apply PV.eqS; exact rfl; exact rfl) | (apply PV.neS; exact rfl; exact rfl) | (apply PV.eqStr; exact rfl; exact rfl) | (apply PV.neStr; exact rfl; exact rfl) | (apply PV.neg; exact rfl) | (apply PV.eqMap; exact rfl; exact tb rfl; exact rfl) | (apply PV.neMap; exact rfl; exact tb rfl; exact rfl) | (apply PV.convBS; exact rfl; exact tb rfl; exact rfl; exact tb rfl; exact rfl; exact tb rfl; exact rfl; (first | (focus ((repeat (first | assumption | apply has_tls)); done)) | exact has_bs 0 rfl | exact has_bs 1 rfl | exact has_bs 2 rfl | exact has_bs 3 rfl | exact has_bs 4 rfl | exact has_bs 5 rfl | exact has_src_row 0 rfl rfl | exact has_src_row 1 rfl rfl | exact has_src_row 2 rfl rfl | exact has_src_row 3 rfl rfl | exact has_srcnil _ _)) | (apply PV.indexAddr; exact rfl; exact rfl; exact tb rfl; exact rfl; exact tb rfl; omega; omega; (first | (simp only [Int.toNat_natCast, Nat.mul_one, Nat.zero_add]; exact rfl) | exact rfl)) | (apply PV.indexAddrArr; exact rfl; exact rfl; exact tb rfl; exact rfl; exact tb rfl; omega; omega; (first | (simp only [Int.toNat_natCast, Nat.mul_one, Nat.zero_add]; exact rfl) | exact rfl)) | (apply PV.indexArr; exact rfl; exact rfl; exact tb rfl; exact rfl; exact tb rfl; exact rfl; exact rfl; omega; assumption)))); exact h_.out) : p := h ⟨k⟩ at_

end Go.Proofs.YthbcfamfaicneaaGreat.E

/- MY OWN LAYER: stores of structs into what one owns. P is a variable. -/
namespace Go.Proofs.YthbcfamfaicneaaGreat.E
open Go Go.RowKit
section
variable {cx : Cx} {ops : Array Oper} {K : Act → World → Prop} {rest : List Oper} {ρ : Env} {ds : List Deferred} {Γ : List HP} {ty : TypeId} {pos : String} {after : Array Edge}
/-- A struct is stored into memory that an assertion at place i owns. -/
theorem TL.storeAggIn {t e : TypeId} {x y : Operand} {b o : Nat} {vs : List Value} {r : TR} {H H' : HP} (i : Nat) (hi : Γ[i]? = some H) (ea : ev ρ x = .pointer (some ⟨b, o, none⟩)) (eb : ev ρ y = .agg vs.toArray) (h1 : allOne vs = true) (ht : TabOk cx.P t r) (hn : (vs.length == r.size) = true)
    (hH : ∀ m, H m → ∃ (l : List Value) (F : HP), sep (row b l e) F m ∧ o + vs.length ≤ l.length ∧ ∀ m', sep (row b (l.take o ++ vs ++ l.drop (o + vs.length)) e) F m' → H' m')
    (h : TL cx ops K rest ρ ds (Γ.set i H')) : TL cx ops K (⟨none, .store t x y, ty, pos, after, none⟩ :: rest) ρ ds Γ := by
  intro a w hr hs
  obtain ⟨⟨l, F⟩, ⟨ho, hF⟩, hs1⟩ := hs.at hi (X := List Value × HP) (φ := fun p => o + vs.length ≤ p.1.length ∧ ∀ m', sep (row b (p.1.take o ++ vs ++ p.1.drop (o + vs.length)) e) p.2 m' → H' m') (K := fun p => sep (row b p.1 e) p.2) (fun m hm => by
    obtain ⟨l, F, h2, h3, h4⟩ := hH m hm
    exact ⟨(l, F), ⟨h3, h4⟩, h2⟩)
  have hi2 : (Γ.set i (sep (row b l e) F))[i]? = some (sep (row b l e) F) := by
    have := (List.getElem?_eq_some_iff.1 hi).1
    simp [this]
  have hs2 : Sat cx.E (row b l e :: F :: Γ.eraseIdx i) w := hs1.imp fun m hm => by
    have := all_front hi2 hm
    rw [List.eraseIdx_set_eq] at this
    exact sep_assoc this
  refine TL.storeAgg (Γ := row b l e :: F :: Γ.eraseIdx i) (pos := pos) (ty := ty) (after := after) 0 rfl ea eb (by simpa [allOne] using h1) ht (by simpa using hn) ho ?_ a w hr hs2
  refine TL.imp (fun m hm => ?_) h
  refine all_perm (perm_set H' hi).symm ?_
  exact sep_mono (sep_assoc' hm) hF (fun _ => id)
/-- The j-th struct of a slice of one's own is put anew. -/
theorem TL.storeOwnA {t e : TypeId} {x y : Operand} {b o' c n sz : Nat} {vs cs cs' : List Value} {r : TR} {Δ : List HP} (i j : Nat) (hi : Γ[i]? = some (own e sz (.slice (some ⟨b, 0, none⟩) n c) n cs)) (ea : ev ρ x = .pointer (some ⟨b, o', none⟩)) (eb : ev ρ y = .agg vs.toArray) (h1 : allOne vs = true) (ht : TabOk cx.P t r) (hn : (vs.length == r.size) = true)
    (hsz : vs.length = sz) (ho : o' = j * sz) (hj : j < n) (hcs : cs.take (j * sz) ++ vs ++ cs.drop (j * sz + sz) = cs') (hΔ : Γ.set i (own e sz (.slice (some ⟨b, 0, none⟩) n c) n cs') = Δ) (h : TL cx ops K rest ρ ds Δ) : TL cx ops K (⟨none, .store t x y, ty, pos, after, none⟩ :: rest) ρ ds Γ := by
  subst hcs; subst hΔ; subst ho
  refine TL.storeAggIn (e := e) i hi ea eb h1 ht hn (fun m hm => ?_) h
  obtain ⟨hcl, ⟨hv, _⟩ | ⟨g, cap, cur, hv, hnc, hcap, hl, htk, hrow⟩⟩ := hm
  · cases hv
  · injection hv with hv1 _ hv2
    injection hv1 with hv1
    injection hv1 with hv1 _
    subst hv1; subst hv2
    have hb : j * sz + sz ≤ n * sz := by
      have := Nat.mul_le_mul_right sz (Nat.succ_le_of_lt hj)
      rw [Nat.succ_mul] at this; exact this
    have hb2 : n * sz ≤ cur.length := by rw [hl]; exact Nat.mul_le_mul_right _ hnc
    have hl2 : sz ≤ cur.length := by omega
    generalize j * sz = a at hb ⊢
    refine ⟨cur, emp, sep_emp hrow, by rw [hsz]; omega, fun m' hm' => ⟨by rw [List.length_append, List.length_append, List.length_take, List.length_drop, hcl, hsz]; omega, .inr ⟨b, c, cur.take a ++ vs ++ cur.drop (a + sz), rfl, hnc, hcap, by rw [List.length_append, List.length_append, List.length_take, List.length_drop, hsz]; omega, ?_, ?_⟩⟩⟩
    · have h2 : (cur.take a ++ vs).length = a + sz := by rw [List.length_append, List.length_take, hsz]; omega
      rw [← htk, List.take_append, h2, List.take_of_length_le (by rw [h2]; exact hb), List.take_take, Nat.min_eq_left (by omega), List.drop_take]
    · have := sep_of_emp hm'
      rw [hsz] at this
      exact this
end
end Go.Proofs.YthbcfamfaicneaaGreat.E

/- Atoms, clauses, facts in memory; may_t, Vars (taken from the Atoms texts). -/
namespace Go.Proofs.YthbcfamfaicneaaGreat.E
open Go Go.RowKit Go.Proofs
attribute [local irreducible] TK TL TQ TA Fn PV
theorem has_el {α : Type} {f : α → List Value} {sz : Nat} (hf : ∀ a, (f a).length = sz) (hz : 0 < sz) {Γ : List HP} {b o n : Nat} {l : List α} {i : Nat} {x : α} (h : has Γ (srcAt sz (some ⟨b, o, none⟩) n (l.flatMap f))) (hi : l[i]? = some x) : has Γ (fun m => cellsAt m b (o + i * sz) (f x)) := fun m hm j v hj => by
  obtain ⟨_, h2⟩ := h m hm
  have hjl : j < sz := by rw [← hf x]; exact (List.getElem?_eq_some_iff.1 hj).1
  have hd : (l.flatMap f).drop (i * sz) = f x ++ (l.drop (i + 1)).flatMap f := by
    rw [← flat_drop hf, List.drop_eq_getElem_cons (List.getElem?_eq_some_iff.1 hi).1, List.flatMap_cons]
    rw [show l[i]'(List.getElem?_eq_some_iff.1 hi).1 = x from (List.getElem?_eq_some_iff.1 hi).2]
  have hg : (l.flatMap f)[i * sz + j]? = some v := by
    rw [← List.getElem?_drop, hd, List.getElem?_append_left (by rw [hf]; exact hjl)]
    exact hj
  rcases h2 with h2 | ⟨b', o', e, h2⟩
  · rw [h2] at hg; simp at hg
  · injection e with e
    injection e with e1 e2 _
    subst e1; subst e2
    have := h2 _ _ hg
    rwa [Nat.add_assoc]
theorem has_cell {Γ : List HP} {b o : Nat} {vs : List Value} (h : has Γ (fun m => cellsAt m b o vs)) (j : Nat) {v : Value} (hv : vs[j]? = some v) : has Γ (fun m => cellAt m b (o + j) v) := has_imp h fun _ hm => hm j v hv
/-! ### terms -/
structure Tm where
  v : Bool
  n : Nat
  deriving DecidableEq
def tmC (t : Tm) : List Value := [.bool t.v, .int .u32 (t.n : Int)]
abbrev tmsC (l : List Tm) : List Value := l.flatMap tmC
theorem tmsC_len (l : List Tm) : (tmsC l).length = l.length * 2 := by
  induction l with
  | nil => rfl
  | cons t l ih => rw [tmsC, List.flatMap_cons, List.length_append]; show 2 + (tmsC l).length = _; rw [ih, List.length_cons]; omega
theorem tm_eq (x y : Tm) : (x.v == y.v && ((x.n : Int) == (y.n : Int) && true)) = decide (x = y) := by
  by_cases h : x = y
  · subst h; simp
  · rw [decide_eq_false h]
    obtain ⟨a, b⟩ := x
    obtain ⟨c, d⟩ := y
    by_cases h1 : a = c
    · subst h1
      have h2 : b ≠ d := fun e => h (by rw [e])
      simp
      omega
    · simp [h1]
/-! ### atoms, literals, clauses, facts -/
structure Atm where
  p : Nat
  A : Option Addr
  c : Nat
  l : List Tm
def Atm.cells (a : Atm) : List Value := [.int .u32 (a.p : Int), .slice a.A a.l.length a.c]
def Atm.ok (a : Atm) (Γ : List HP) : Prop := has Γ (srcAt 2 a.A a.l.length (tmsC a.l)) ∧ a.l.length ≤ a.c
theorem Atm.ok_tl {a : Atm} {Γ : List HP} {H : HP} (h : a.ok Γ) : a.ok (H :: Γ) := ⟨has_tls h.1, h.2⟩
structure Lt where
  no : Bool
  a : Atm
def Lt.cells (x : Lt) : List Value := .bool x.no :: x.a.cells
abbrev ltsC (l : List Lt) : List Value := l.flatMap Lt.cells
theorem ltsC_len (l : List Lt) : (ltsC l).length = l.length * 3 := by
  induction l with
  | nil => rfl
  | cons t l ih => rw [ltsC, List.flatMap_cons, List.length_append]; show 3 + (ltsC l).length = _; rw [ih, List.length_cons]; omega
structure Cl where
  h : Atm
  A : Option Addr
  c : Nat
  l : List Lt
def Cl.cells (c : Cl) : List Value := [.int .u32 (c.h.p : Int), .slice c.h.A c.h.l.length c.h.c, .slice c.A c.l.length c.c]
def Cl.ok (c : Cl) (Γ : List HP) : Prop := c.h.ok Γ ∧ has Γ (srcAt 3 c.A c.l.length (ltsC c.l)) ∧ c.l.length ≤ c.c ∧ ∀ x ∈ c.l, x.a.ok Γ
theorem Cl.ok_tl {a : Cl} {Γ : List HP} {H : HP} (h : a.ok Γ) : a.ok (H :: Γ) := ⟨Atm.ok_tl h.1, has_tls h.2.1, h.2.2.1, fun x hx => Atm.ok_tl (h.2.2.2 x hx)⟩
/-! ### what may be -/
def badT (t : Tm) : Bool := t.v && decide (16 ≤ t.n)
def mayA (l : List Tm) : Bool := decide (l.length ≤ 6) && !(l.any badT)
def mayC (c : Cl) : Bool := decide (c.l.length ≤ 8) && mayA c.h.l && !(c.l.any fun x => !mayA x.a.l)
def bigC (c : Cl) : Bool := decide (100 < c.l.length) || decide (100 < c.h.l.length) || c.l.any fun x => decide (100 < x.a.l.length)
def sameA (a b : Atm) : Bool := decide (a.p = b.p) && decide (a.l = b.l)
def sameLs : List Lt → List Lt → Bool
  | [], [] => true
  | x :: l, y :: m => (x.no == y.no && sameA x.a y.a) && sameLs l m
  | _, _ => false
def sameC (a b : Cl) : Bool := sameA a.h b.h && sameLs a.l b.l
set_option maxRecDepth 100000 in
set_option maxHeartbeats 1000000 in
theorem indexF_tm (F : FuncId) (p : Tm → Bool) (A : Option Addr) (c : Nat) (l : List Tm) (Γ : List HP) (hc : Callable Tryz.prog F) (hs : has Γ (srcAt 2 A l.length (l.flatMap tmC))) (hn : l.length ≤ 1000000)
    (hF : ∀ x ∈ l, FnV Tryz.prog F [.agg (tmC x).toArray] Γ fun v Γ' => v = .bool (p x) ∧ Γ' = Γ) :
    FnV Tryz.prog 183 [.slice A l.length c, .func (.func F) #[] #[]] Γ fun v Γ' => (∃ i : Int, v = .int .i64 i ∧ decide (0 ≤ i) = l.any p) ∧ Γ' = Γ := by
  refine Fn.enter Tryz.func183 rfl rfl rfl fun E => ?_
  refine m_run ?_
  apply TK.iter (fun j ρ' Γ' => ∃ i : Nat, i + j = l.length ∧ (l.take i).any p = false ∧ lk ρ' 0 = .slice A l.length c ∧ lk ρ' 1 = .func (.func F) #[] #[] ∧ lk ρ' 7 = .int .i64 (l.length : Int) ∧ lk ρ' 8 = .int .i64 (i : Int) ∧ Γ' = Γ) l.length
  · exact ⟨0, Nat.zero_add _, by simp, rfl, rfl, rfl, rfl, rfl⟩
  rintro j IH ρ' Γ ⟨i, hij, hno, e0, e1, e7, e8, rfl⟩
  refine TK.know4 e0 e1 e7 e8 ?_
  by_cases hi : i < l.length
  · obtain ⟨x, hx⟩ : ∃ x, l[i]? = some x := ⟨l[i], List.getElem?_eq_getElem hi⟩
    refine TK.mem fun m0 hm0 => ?_
    obtain ⟨b, o, rfl⟩ := src_some (hs m0 hm0) (by rw [tmsC_len]; omega)
    clear hm0 m0
    have hel := has_el (f := tmC) (fun _ => rfl) (by decide) hs hx
    refine m_run ?_
    (apply TL.callFV (fs := []) (cs := []); exact rfl; exact rfl; exact hc; exact rfl; exact fun _ h => h)
    exact hF x (List.mem_of_getElem? hx)
    rintro _ _ ⟨rfl, rfl⟩
    cases hp : p x with
    | true =>
      refine m_run ?_
      (apply TK.ret1; exact rfl; exact rfl; (exact m_val))
      refine ⟨_, rfl, ⟨_, rfl, ?_⟩, rfl⟩
      rw [decide_eq_true (by omega)]
      exact (List.any_eq_true.2 ⟨x, List.mem_of_getElem? hx, hp⟩).symm
    | false =>
      refine m_run ?_
      refine IH (j - 1) _ _ (by omega) ⟨i + 1, by omega, ?_, rfl, rfl, rfl, congrArg (Value.int .i64) (i64_succ i (by omega)), rfl⟩
      rw [List.take_add_one, hx, List.any_append, hno]
      simp [hp]
  obtain rfl : i = l.length := by omega
  rw [List.take_length] at hno
  refine m_run ?_
  (apply TK.ret1; exact rfl; exact rfl; (exact m_val))
  exact ⟨_, rfl, ⟨_, rfl, hno.symm⟩, rfl⟩
theorem containsF_tm (F : FuncId) (p : Tm → Bool) (A : Option Addr) (c : Nat) (l : List Tm) (Γ : List HP) (hc : Callable Tryz.prog F) (hs : has Γ (srcAt 2 A l.length (l.flatMap tmC))) (hn : l.length ≤ 1000000)
    (hF : ∀ x ∈ l, FnV Tryz.prog F [.agg (tmC x).toArray] Γ fun v Γ' => v = .bool (p x) ∧ Γ' = Γ) :
    FnV Tryz.prog 148 [.slice A l.length c, .func (.func F) #[] #[]] Γ fun v Γ' => v = .bool (l.any p) ∧ Γ' = Γ := by
  refine Fn.enter Tryz.func148 rfl rfl rfl fun E => ?_
  refine m_run ?_
  (apply TL.callV; exact rfl; exact callB_of (by kernel_rfl); exact rfl; exact fun _ h => h)
  exact indexF_tm F p A c l Γ hc hs hn hF
  rintro _ _ ⟨⟨i, rfl, hi⟩, rfl⟩
  refine m_run ?_
  (apply TK.ret1; exact rfl; exact rfl; exact rfl)
  exact ⟨_, rfl, congrArg Value.bool hi, rfl⟩
set_option maxRecDepth 100000 in
set_option maxHeartbeats 1000000 in
theorem indexF_lt (F : FuncId) (p : Lt → Bool) (A : Option Addr) (c : Nat) (l : List Lt) (Γ : List HP) (hc : Callable Tryz.prog F) (hs : has Γ (srcAt 3 A l.length (l.flatMap Lt.cells))) (hn : l.length ≤ 1000000)
    (hF : ∀ x ∈ l, FnV Tryz.prog F [.agg (Lt.cells x).toArray] Γ fun v Γ' => v = .bool (p x) ∧ Γ' = Γ) :
    FnV Tryz.prog 147 [.slice A l.length c, .func (.func F) #[] #[]] Γ fun v Γ' => (∃ i : Int, v = .int .i64 i ∧ decide (0 ≤ i) = l.any p) ∧ Γ' = Γ := by
  refine Fn.enter Tryz.func147 rfl rfl rfl fun E => ?_
  refine m_run ?_
  apply TK.iter (fun j ρ' Γ' => ∃ i : Nat, i + j = l.length ∧ (l.take i).any p = false ∧ lk ρ' 0 = .slice A l.length c ∧ lk ρ' 1 = .func (.func F) #[] #[] ∧ lk ρ' 7 = .int .i64 (l.length : Int) ∧ lk ρ' 8 = .int .i64 (i : Int) ∧ Γ' = Γ) l.length
  · exact ⟨0, Nat.zero_add _, by simp, rfl, rfl, rfl, rfl, rfl⟩
  rintro j IH ρ' Γ ⟨i, hij, hno, e0, e1, e7, e8, rfl⟩
  refine TK.know4 e0 e1 e7 e8 ?_
  by_cases hi : i < l.length
  · obtain ⟨x, hx⟩ : ∃ x, l[i]? = some x := ⟨l[i], List.getElem?_eq_getElem hi⟩
    refine TK.mem fun m0 hm0 => ?_
    obtain ⟨b, o, rfl⟩ := src_some (hs m0 hm0) (by rw [ltsC_len]; omega)
    clear hm0 m0
    have hel := has_el (f := Lt.cells) (fun _ => rfl) (by decide) hs hx
    refine m_run ?_
    (apply TL.callFV (fs := []) (cs := []); exact rfl; exact rfl; exact hc; exact rfl; exact fun _ h => h)
    exact hF x (List.mem_of_getElem? hx)
    rintro _ _ ⟨rfl, rfl⟩
    cases hp : p x with
    | true =>
      refine m_run ?_
      (apply TK.ret1; exact rfl; exact rfl; (exact m_val))
      refine ⟨_, rfl, ⟨_, rfl, ?_⟩, rfl⟩
      rw [decide_eq_true (by omega)]
      exact (List.any_eq_true.2 ⟨x, List.mem_of_getElem? hx, hp⟩).symm
    | false =>
      refine m_run ?_
      refine IH (j - 1) _ _ (by omega) ⟨i + 1, by omega, ?_, rfl, rfl, rfl, congrArg (Value.int .i64) (i64_succ i (by omega)), rfl⟩
      rw [List.take_add_one, hx, List.any_append, hno]
      simp [hp]
  obtain rfl : i = l.length := by omega
  rw [List.take_length] at hno
  refine m_run ?_
  (apply TK.ret1; exact rfl; exact rfl; (exact m_val))
  exact ⟨_, rfl, ⟨_, rfl, hno.symm⟩, rfl⟩
theorem containsF_lt (F : FuncId) (p : Lt → Bool) (A : Option Addr) (c : Nat) (l : List Lt) (Γ : List HP) (hc : Callable Tryz.prog F) (hs : has Γ (srcAt 3 A l.length (l.flatMap Lt.cells))) (hn : l.length ≤ 1000000)
    (hF : ∀ x ∈ l, FnV Tryz.prog F [.agg (Lt.cells x).toArray] Γ fun v Γ' => v = .bool (p x) ∧ Γ' = Γ) :
    FnV Tryz.prog 109 [.slice A l.length c, .func (.func F) #[] #[]] Γ fun v Γ' => v = .bool (l.any p) ∧ Γ' = Γ := by
  refine Fn.enter Tryz.func109 rfl rfl rfl fun E => ?_
  refine m_run ?_
  (apply TL.callV; exact rfl; exact callB_of (by kernel_rfl); exact rfl; exact fun _ h => h)
  exact indexF_lt F p A c l Γ hc hs hn hF
  rintro _ _ ⟨⟨i, rfl, hi⟩, rfl⟩
  refine m_run ?_
  (apply TK.ret1; exact rfl; exact rfl; exact rfl)
  exact ⟨_, rfl, congrArg Value.bool hi, rfl⟩
theorem bad_t (t : Tm) (Γ : List HP) : FnV Tryz.prog 149 [.agg (tmC t).toArray] Γ fun v Γ' => v = .bool (badT t) ∧ Γ' = Γ := by
  refine Fn.enter Tryz.func149 rfl rfl rfl fun E => ?_
  obtain ⟨v, n⟩ := t
  refine m_run ?_
  (apply TL.box; exact rfl; exact rfl; (exact m_lst))
  intro b1
  cases v with
  | false =>
    refine m_run ?_
    (apply TK.retS1; exact rfl; exact rfl; (exact m_val))
    · exact ⟨_, rfl, rfl, rfl⟩
    · (repeat (first | exact List.Sublist.refl _ | apply List.Sublist.cons_cons | apply List.Sublist.cons))
  | true =>
    refine m_run ?_
    (apply TK.retS1; exact rfl; exact rfl; (exact m_val))
    · exact ⟨_, rfl, congrArg Value.bool (by simp only [badT, Bool.true_and]; exact decide_eq_decide.2 (by omega)), rfl⟩
    · (repeat (first | exact List.Sublist.refl _ | apply List.Sublist.cons_cons | apply List.Sublist.cons))
theorem mayAtom_t (a : Atm) (Γ : List HP) (h : a.ok Γ) (hn : a.l.length ≤ 1000000) : FnV Tryz.prog 114 [.agg a.cells.toArray] Γ fun v Γ' => v = .bool (mayA a.l) ∧ Γ' = Γ := by
  refine Fn.enter Tryz.func114 rfl rfl rfl fun E => ?_
  refine m_run ?_
  (apply TL.box; exact rfl; exact rfl; (exact m_lst))
  intro b1
  by_cases h6 : a.l.length ≤ 6
  · refine m_run ?_
    (apply TL.callV; exact rfl; exact callB_of (by kernel_rfl); exact rfl; exact fun _ h => h)
    exact containsF_tm _ badT a.A a.c a.l _ (callB_of (by kernel_rfl)) (has_tls h.1) hn fun x _ => bad_t x _
    rintro _ _ ⟨rfl, rfl⟩
    refine m_run ?_
    (apply TK.retS1; exact rfl; exact rfl; (exact m_val))
    · exact ⟨_, rfl, congrArg Value.bool (by simp [mayA, h6]), rfl⟩
    · (repeat (first | exact List.Sublist.refl _ | apply List.Sublist.cons_cons | apply List.Sublist.cons))
  · refine m_run ?_
    (apply TK.retS1; exact rfl; exact rfl; (exact m_val))
    · exact ⟨_, rfl, congrArg Value.bool (by simp [mayA, h6]), rfl⟩
    · (repeat (first | exact List.Sublist.refl _ | apply List.Sublist.cons_cons | apply List.Sublist.cons))
theorem mayLit_t (x : Lt) (Γ : List HP) (h : x.a.ok Γ) (hn : x.a.l.length ≤ 1000000) : FnV Tryz.prog 115 [.agg x.cells.toArray] Γ fun v Γ' => v = .bool (!mayA x.a.l) ∧ Γ' = Γ := by
  refine Fn.enter Tryz.func115 rfl rfl rfl fun E => ?_
  refine m_run ?_
  (apply TL.box; exact rfl; exact rfl; (exact m_lst))
  intro b1
  refine m_run ?_
  (apply TL.callV; exact rfl; exact callB_of (by kernel_rfl); exact rfl; exact fun _ h => h)
  exact mayAtom_t x.a _ (Atm.ok_tl h) hn
  rintro _ _ ⟨rfl, rfl⟩
  refine m_run ?_
  (apply TK.retS1; exact rfl; exact rfl; (exact m_val))
  · exact ⟨_, rfl, rfl, rfl⟩
  · (repeat (first | exact List.Sublist.refl _ | apply List.Sublist.cons_cons | apply List.Sublist.cons))
def Cl.small (c : Cl) : Prop := c.l.length ≤ 1000000 ∧ c.h.l.length ≤ 1000000 ∧ ∀ x ∈ c.l, x.a.l.length ≤ 1000000
theorem may_t (c : Cl) (Γ : List HP) (h : c.ok Γ) (hn : c.small) : FnV Tryz.prog 78 [.agg c.cells.toArray] Γ fun v Γ' => v = .bool (mayC c) ∧ Γ' = Γ := by
  refine Fn.enter Tryz.func78 rfl rfl rfl fun E => ?_
  refine m_run ?_
  (apply TL.box; exact rfl; exact rfl; (exact m_lst))
  intro b1
  by_cases h8 : c.l.length ≤ 8
  · refine m_run ?_
    (apply TL.callV; exact rfl; exact callB_of (by kernel_rfl); exact rfl; exact fun _ h => h)
    exact mayAtom_t c.h _ (Atm.ok_tl h.1) hn.2.1
    rintro _ _ ⟨rfl, rfl⟩
    cases hm : mayA c.h.l with
    | true =>
      refine m_run ?_
      (apply TL.callV; exact rfl; exact callB_of (by kernel_rfl); exact rfl; exact fun _ h => h)
      exact containsF_lt _ (fun x => !mayA x.a.l) c.A c.c c.l _ (callB_of (by kernel_rfl)) (has_tls h.2.1) hn.1 fun x hx => mayLit_t x _ (Atm.ok_tl (h.2.2.2 x hx)) (hn.2.2 x hx)
      rintro _ _ ⟨rfl, rfl⟩
      refine m_run ?_
      (apply TK.retS1; exact rfl; exact rfl; (exact m_val))
      · exact ⟨_, rfl, congrArg Value.bool (by simp [mayC, h8, hm]), rfl⟩
      · (repeat (first | exact List.Sublist.refl _ | apply List.Sublist.cons_cons | apply List.Sublist.cons))
    | false =>
      refine m_run ?_
      (apply TK.retS1; exact rfl; exact rfl; (exact m_val))
      · exact ⟨_, rfl, congrArg Value.bool (by simp [mayC, hm]), rfl⟩
      · (repeat (first | exact List.Sublist.refl _ | apply List.Sublist.cons_cons | apply List.Sublist.cons))
  · refine m_run ?_
    (apply TK.retS1; exact rfl; exact rfl; (exact m_val))
    · exact ⟨_, rfl, congrArg Value.bool (by simp [mayC, h8]), rfl⟩
    · (repeat (first | exact List.Sublist.refl _ | apply List.Sublist.cons_cons | apply List.Sublist.cons))
/-! ### the document's -/
set_option maxRecDepth 100000 in
set_option maxHeartbeats 1000000 in
theorem rmayAtom_t (a : Atm) (Γ : List HP) (h : a.ok Γ) (hn : a.l.length ≤ 1000000) : FnV Tryz.prog 82 [.agg a.cells.toArray] Γ fun v Γ' => v = .bool (mayA a.l) ∧ Γ' = Γ := by
  refine Fn.enter Tryz.func82 rfl rfl rfl fun E => ?_
  obtain ⟨p, A, c, l⟩ := a
  have hs0 : has Γ (srcAt 2 A l.length (tmsC l)) := h.1
  replace hn : l.length ≤ 1000000 := hn
  refine m_run ?_
  (apply TL.box; exact rfl; exact rfl; (exact m_lst))
  intro b1
  refine m_run ?_
  refine TK.imp (Δ := row b1 [.int .u32 (p : Int), .slice A l.length c] 30 :: Γ) (fun _ h => h) ?_
  apply TK.iter (fun j ρ' Γ' => ∃ i : Nat, i + j = l.length ∧ (l.take i).any badT = false ∧ lk ρ' 1 = .pointer (some ⟨b1, 0, none⟩) ∧ lk ρ' 3 = .int .i64 (i : Int) ∧ Γ' = row b1 [.int .u32 (p : Int), .slice A l.length c] 30 :: Γ) l.length
  · exact ⟨0, Nat.zero_add _, by simp, rfl, rfl, rfl⟩
  rintro j IH ρ' _ ⟨i, hij, hno, e1, e3, rfl⟩
  refine TK.know2 e1 e3 ?_
  by_cases hi : i < l.length
  · obtain ⟨x, hx⟩ : ∃ x, l[i]? = some x := ⟨l[i], List.getElem?_eq_getElem hi⟩
    refine TK.mem fun m0 hm0 => ?_
    obtain ⟨b, o, rfl⟩ := src_some (has_tls hs0 m0 hm0) (by rw [tmsC_len]; omega)
    clear hm0 m0
    have hel := has_el (f := tmC) (fun _ => rfl) (by decide) hs0 hx
    have hv := has_cell hel 0 (v := .bool x.v) rfl
    have hk := has_cell hel 1 (v := .int .u32 (x.n : Int)) rfl
    have hbad : badT x = true → mayA l = false := fun hb => by
      have : l.any badT = true := List.any_eq_true.2 ⟨x, List.mem_of_getElem? hx, hb⟩
      simp [mayA, this]
    have hgo : badT x = false → (l.take (i + 1)).any badT = false := fun hb => by
      rw [List.take_add_one, hx, List.any_append, hno]
      simp [hb]
    cases hxv : x.v with
    | false =>
      rw [hxv] at hv
      have hg := hgo (by simp [badT, hxv])
      refine m_run ?_
      exact IH (j - 1) _ _ (by omega) ⟨i + 1, by omega, hg, rfl, congrArg (Value.int .i64) (i64_succ i (by omega)), rfl⟩
    | true =>
      rw [hxv] at hv
      by_cases h16 : 16 ≤ x.n
      · have hb := hbad (by simp [badT, hxv, h16])
        refine m_run ?_
        (apply TK.retS1; exact rfl; exact rfl; (exact m_val))
        · exact ⟨_, rfl, congrArg Value.bool hb.symm, rfl⟩
        · (repeat (first | exact List.Sublist.refl _ | apply List.Sublist.cons_cons | apply List.Sublist.cons))
      · have hg := hgo (by simp [badT, hxv]; omega)
        refine m_run ?_
        exact IH (j - 1) _ _ (by omega) ⟨i + 1, by omega, hg, rfl, congrArg (Value.int .i64) (i64_succ i (by omega)), rfl⟩
  obtain rfl : i = l.length := by omega
  rw [List.take_length] at hno
  refine m_run ?_
  (apply TK.retS1; exact rfl; exact rfl; (exact m_val))
  · exact ⟨_, rfl, congrArg Value.bool (by simp only [mayA, hno, Bool.not_false, Bool.and_true]; exact decide_eq_decide.2 (by omega)), rfl⟩
  · (repeat (first | exact List.Sublist.refl _ | apply List.Sublist.cons_cons | apply List.Sublist.cons))
/-- What is known of a literal in a clause's body. -/
theorem has_lit {Γ : List HP} {b o n : Nat} {l : List Lt} {i : Nat} {x : Lt} (h : has Γ (srcAt 3 (some ⟨b, o, none⟩) n (ltsC l))) (hi : l[i]? = some x) :
    has Γ (fun m => cellsAt m b (o + i * 3) x.cells) ∧ has Γ (fun m => cellAt m b (o + i * 3 + 0) (.bool x.no)) ∧ has Γ (fun m => cellsAt m b (o + i * 3 + 1) x.a.cells) := by
  have hel := has_el (f := Lt.cells) (fun _ => rfl) (by decide) h hi
  refine ⟨hel, has_cell hel 0 rfl, has_imp hel fun _ hm j v hv => ?_⟩
  have := hm (j + 1) v hv
  rwa [Nat.add_comm j 1, ← Nat.add_assoc] at this
set_option maxRecDepth 100000 in
set_option maxHeartbeats 1000000 in
theorem rmay_t (c : Cl) (Γ : List HP) (h : c.ok Γ) (hn : c.small) : FnV Tryz.prog 30 [.agg c.cells.toArray] Γ fun v Γ' => v = .bool (mayC c) ∧ Γ' = Γ := by
  refine Fn.enter Tryz.func30 rfl rfl rfl fun E => ?_
  obtain ⟨⟨hp, hA, hc, hl⟩, A, c, l⟩ := c
  have hs0 : has Γ (srcAt 3 A l.length (ltsC l)) := h.2.1
  have hb0 : ∀ x ∈ l, x.a.ok Γ := h.2.2.2
  have hn1 : l.length ≤ 1000000 := hn.1
  have hn3 : ∀ x ∈ l, x.a.l.length ≤ 1000000 := hn.2.2
  refine m_run ?_
  (apply TL.box; exact rfl; exact rfl; (exact m_lst))
  intro b1
  refine m_run ?_
  refine TK.imp (Δ := row b1 [.int .u32 (hp : Int), .slice hA hl.length hc, .slice A l.length c] 57 :: Γ) (fun _ h => h) ?_
  apply TK.iter (fun j ρ' Γ' => ∃ i : Nat, i + j = l.length ∧ ((l.take i).any fun x => !mayA x.a.l) = false ∧ lk ρ' 1 = .pointer (some ⟨b1, 0, none⟩) ∧ lk ρ' 3 = .int .i64 (i : Int) ∧ Γ' = row b1 [.int .u32 (hp : Int), .slice hA hl.length hc, .slice A l.length c] 57 :: Γ) l.length
  · exact ⟨0, Nat.zero_add _, by simp, rfl, rfl, rfl⟩
  rintro j IH ρ' _ ⟨i, hij, hno, e1, e3, rfl⟩
  refine TK.know2 e1 e3 ?_
  by_cases hi : i < l.length
  · obtain ⟨x, hx⟩ : ∃ x, l[i]? = some x := ⟨l[i], List.getElem?_eq_getElem hi⟩
    have hxm := List.mem_of_getElem? hx
    refine TK.mem fun m0 hm0 => ?_
    obtain ⟨b, o, rfl⟩ := src_some (has_tls hs0 m0 hm0) (by rw [ltsC_len]; omega)
    clear hm0 m0
    obtain ⟨_, _, hat⟩ := has_lit hs0 hx
    refine m_run ?_
    (apply TL.callV; exact rfl; exact callB_of (by kernel_rfl); exact rfl; exact fun _ h => h)
    exact rmayAtom_t x.a _ (Atm.ok_tl (hb0 x hxm)) (hn3 x hxm)
    rintro _ _ ⟨rfl, rfl⟩
    cases hm : mayA x.a.l with
    | true =>
      refine m_run ?_
      refine IH (j - 1) _ _ (by omega) ⟨i + 1, by omega, ?_, rfl, congrArg (Value.int .i64) (i64_succ i (by omega)), rfl⟩
      rw [List.take_add_one, hx, List.any_append, hno]
      simp [hm]
    | false =>
      have : (l.any fun x => !mayA x.a.l) = true := List.any_eq_true.2 ⟨x, hxm, by simp [hm]⟩
      refine m_run ?_
      (apply TK.retS1; exact rfl; exact rfl; (exact m_val))
      · exact ⟨_, rfl, congrArg Value.bool (by simp [mayC, this]), rfl⟩
      · (repeat (first | exact List.Sublist.refl _ | apply List.Sublist.cons_cons | apply List.Sublist.cons))
  obtain rfl : i = l.length := by omega
  rw [List.take_length] at hno
  refine m_run ?_
  (apply TL.callV; exact rfl; exact callB_of (by kernel_rfl); exact rfl; exact fun _ h => h)
  exact rmayAtom_t ⟨hp, hA, hc, hl⟩ _ (Atm.ok_tl h.1) hn.2.1
  rintro _ _ ⟨rfl, rfl⟩
  cases hm : mayA hl with
  | true =>
    refine m_run ?_
    (apply TK.retS1; exact rfl; exact rfl; (exact m_val))
    · exact ⟨_, rfl, congrArg Value.bool (by simp only [mayC, hno, hm, Bool.not_false, Bool.and_true]; exact decide_eq_decide.2 (by omega)), rfl⟩
    · (repeat (first | exact List.Sublist.refl _ | apply List.Sublist.cons_cons | apply List.Sublist.cons))
  | false =>
    refine m_run ?_
    (apply TK.retS1; exact rfl; exact rfl; (exact m_val))
    · exact ⟨_, rfl, congrArg Value.bool (by simp [mayC, hm]), rfl⟩
    · (repeat (first | exact List.Sublist.refl _ | apply List.Sublist.cons_cons | apply List.Sublist.cons))
def u32s (l : List Nat) : List Value := l.map fun n : Nat => Value.int .u32 (n : Int)
theorem u32s_len (l : List Nat) : (u32s l).length = l.length := List.length_map ..
theorem u32s_one (l : List Nat) : ∀ u ∈ u32s l, u.oneCell' = true := by
  intro u hu
  obtain ⟨n, _, rfl⟩ := List.mem_map.1 hu
  rfl
theorem has_u32 {Γ : List HP} {b o n i x : Nat} {l : List Nat} (h : has Γ (srcAt 1 (some ⟨b, o, none⟩) n (u32s l))) (hi : l[i]? = some x) : has Γ (fun m => cellAt m b (o + i) (.int .u32 (x : Int))) := fun m hm => by
  obtain ⟨_, h2⟩ := h m hm
  have hg : (u32s l)[i]? = some (.int .u32 (x : Int)) := by rw [u32s, List.getElem?_map, hi]; rfl
  rcases h2 with h2 | ⟨b', o', e, h2⟩
  · rw [h2] at hg; simp at hg
  · injection e with e
    injection e with e1 e2 _
    subst e1; subst e2
    exact h2 _ _ hg
abbrev ownU (A : Option Addr) (c : Nat) (l : List Nat) : HP := own 23 1 (.slice A l.length c) l.length (u32s l)
theorem nanU_t (x : Int) (Γ : List HP) : FnV Tryz.prog 182 [.int .u32 x] Γ fun v Γ' => v = .bool false ∧ Γ' = Γ := by
  refine Fn.enter Tryz.func182 rfl rfl rfl fun E => ?_
  refine m_run ?_
  (apply TK.ret1; exact rfl; exact rfl; exact rfl)
  exact ⟨_, rfl, congrArg Value.bool (by simp), rfl⟩
theorem less_t (x y : Int) (Γ : List HP) : FnV Tryz.prog 142 [.int .u32 x, .int .u32 y] Γ fun v Γ' => v = .bool (decide (x < y)) ∧ Γ' = Γ := by
  refine Fn.enter Tryz.func142 rfl rfl rfl fun E => ?_
  refine m_run ?_
  (apply TL.callV; exact rfl; exact callB_of (by kernel_rfl); exact rfl; exact fun _ h => h)
  exact nanU_t x Γ
  rintro _ Γ ⟨rfl, rfl⟩
  refine m_run ?_
  (apply TK.ret1; exact rfl; exact rfl; exact rfl)
  exact ⟨_, rfl, rfl, rfl⟩
/-! ### insertion sort -/
theorem own_addr {e sz n c : Nat} {A : Option Addr} {cs : List Value} {Γ : List HP} {m : Mem} (hm : all (own e sz (.slice A n c) n cs :: Γ) m) (h0 : 0 < n) : ∃ b, A = some ⟨b, 0, none⟩ := by
  obtain ⟨m1, m2, _, _, h1, _⟩ := hm
  obtain ⟨_, ⟨_, h, _⟩ | ⟨g, cap, cur, hv, _⟩⟩ := h1
  · omega
  · injection hv with hv _ _
    exact ⟨g, hv⟩
theorem u32s_set (l : List Nat) (i x : Nat) : (u32s l).set i (.int .u32 (x : Int)) = u32s (l.set i x) := by
  unfold u32s
  rw [List.map_set]
/-! ### Compact -/
def compL : List Nat → List Nat
  | [] => []
  | x :: l => match l with
    | [] => [x]
    | y :: _ => if x = y then compL l else x :: compL l
theorem compL_snoc : ∀ (l : List Nat) (x y : Nat), compL (l ++ [x, y]) = if x = y then compL (l ++ [x]) else compL (l ++ [x]) ++ [y]
  | [], x, y => by
    show compL [x, y] = _
    simp only [compL, List.nil_append]
    by_cases h : x = y
    · subst h; rw [if_pos rfl, if_pos rfl]
    · rw [if_neg h, if_neg h]; rfl
  | [a], x, y => by
    show compL (a :: x :: [y]) = if x = y then compL (a :: [x]) else compL (a :: [x]) ++ [y]
    have ih := compL_snoc [] x y
    rw [List.nil_append, List.nil_append] at ih
    have h1 : compL (a :: x :: [y]) = if a = x then compL [x, y] else a :: compL [x, y] := rfl
    have h2 : compL (a :: [x]) = if a = x then compL [x] else a :: compL [x] := rfl
    rw [h1, h2, ih]
    split <;> split <;> rfl
  | a :: b :: l, x, y => by
    have ih := compL_snoc (b :: l) x y
    have h1 : compL (a :: b :: l ++ [x, y]) = if a = b then compL (b :: l ++ [x, y]) else a :: compL (b :: l ++ [x, y]) := rfl
    have h2 : compL (a :: b :: l ++ [x]) = if a = b then compL (b :: l ++ [x]) else a :: compL (b :: l ++ [x]) := rfl
    rw [h1, h2, ih]
    split <;> split <;> rfl
theorem compL_len : ∀ l : List Nat, (compL l).length ≤ l.length
  | [] => Nat.le_refl _
  | [x] => Nat.le_refl _
  | x :: y :: l => by
    have ih := compL_len (y :: l)
    have h1 : compL (x :: y :: l) = if x = y then compL (y :: l) else x :: compL (y :: l) := rfl
    rw [h1]
    split
    · rw [List.length_cons]; omega
    · rw [List.length_cons, List.length_cons]; omega
theorem take_two {D : List Nat} {k x y : Nat} (hx : D[k - 1]? = some x) (hy : D[k]? = some y) (hk : 1 ≤ k) : D.take (k + 1) = D.take (k - 1) ++ [x, y] ∧ D.take k = D.take (k - 1) ++ [x] := by
  have h1 : D.take k = D.take (k - 1) ++ [x] := by
    obtain ⟨q, rfl⟩ : ∃ q, k = q + 1 := ⟨k - 1, by omega⟩
    rw [Nat.add_sub_cancel] at hx ⊢
    rw [List.take_add_one, hx]; rfl
  refine ⟨?_, h1⟩
  rw [List.take_add_one, hy, h1]
  simp
theorem own_cut {e n k c : Nat} {A : Option Addr} {cs : List Value} {m : Mem} (h : own e 1 (.slice A n c) n cs m) (hk : k ≤ n) (h0 : 0 < n) : own e 1 (.slice A k c) k (cs.take k) m := by
  obtain ⟨hl, ⟨_, hn, _⟩ | ⟨g, cap, cur, hv, hn, hcap, hcl, htk, hr⟩⟩ := h
  · omega
  · injection hv with h1 _ h2
    subst h1; subst h2
    rw [Nat.mul_one] at hl htk
    refine ⟨by simp; omega, .inr ⟨g, c, cur, rfl, by omega, hcap, hcl, ?_, hr⟩⟩
    rw [Nat.mul_one, ← htk, List.take_take, Nat.min_eq_left hk]
theorem own_cap {e sz n c : Nat} {A : Option Addr} {cs : List Value} {Γ : List HP} {m : Mem} (hm : all (own e sz (.slice A n c) n cs :: Γ) m) : n ≤ c := by
  obtain ⟨m1, m2, _, _, h1, _⟩ := hm
  exact (own_len h1).2
theorem ownU_cell {D L : List Nat} {b c q z : Nat} {Γ : List HP} (hq : L[q]? = some z) : has (own 23 1 (.slice (some ⟨b, 0, none⟩) D.length c) D.length (u32s L) :: Γ) (fun m => cellAt m b q (.int .u32 (z : Int))) := by
  have h1 : has (own 23 1 (.slice (some ⟨b, 0, none⟩) D.length c) D.length (u32s L) :: Γ) (srcAt 1 (some ⟨b, 0, none⟩) D.length (u32s L)) := has_at (up_src _ _ _ _) 0 rfl fun _ h => own_src h
  have h2 := has_u32 h1 hq
  rwa [Nat.zero_add] at h2
set_option maxRecDepth 100000 in
set_option maxHeartbeats 2000000 in
theorem compact_t (A : Option Addr) (c : Nat) (D : List Nat) (Γ : List HP) (hn : D.length ≤ 1000000) :
    FnV Tryz.prog 58 [.slice A D.length c] (own 23 1 (.slice A D.length c) D.length (u32s D) :: Γ)
      fun v Γ' => v = .slice A (compL D).length c ∧ Γ' = own 23 1 (.slice A (compL D).length c) (compL D).length (u32s (compL D)) :: Γ := by
  refine Fn.enter Tryz.func58 rfl rfl rfl fun E => ?_
  by_cases h2 : D.length < 2
  · have hD : compL D = D := by
      match D, h2 with
      | [], _ => rfl
      | [x], _ => rfl
    rw [hD]
    refine m_run ?_
    (apply TK.ret1; exact rfl; exact rfl; (exact m_val))
    exact ⟨_, rfl, rfl, rfl⟩
  refine m_run ?_
  refine TK.mem fun m0 hm0 => ?_
  obtain ⟨b, rfl⟩ := own_addr hm0 (by omega)
  have hcap := own_cap hm0
  clear hm0 m0
  apply TK.iter (fun j ρ' Γ' => ∃ k : Nat, k + j = D.length ∧ 1 ≤ k ∧ compL (D.take k) = D.take k ∧ lk ρ' 0 = .slice (some ⟨b, 0, none⟩) D.length c ∧ lk ρ' 3 = .int .i64 (k : Int) ∧ Γ' = own 23 1 (.slice (some ⟨b, 0, none⟩) D.length c) D.length (u32s D) :: Γ) (D.length - 1)
  · exact ⟨1, by omega, Nat.le_refl _, by
      match D, h2 with
      | x :: l, _ => rfl, rfl, rfl, rfl⟩
  rintro j IH ρ' _ ⟨k, hkj, hk1, hkk, e0, e3, rfl⟩
  refine TK.know2 e0 e3 ?_
  by_cases hk : k < D.length
  · obtain ⟨y, hy⟩ : ∃ y, D[k]? = some y := ⟨D[k], List.getElem?_eq_getElem hk⟩
    obtain ⟨x, hx⟩ : ∃ x, D[k - 1]? = some x := ⟨D[k - 1], List.getElem?_eq_getElem (by omega)⟩
    obtain ⟨ht1, ht2⟩ := take_two hx hy hk1
    have hsn := compL_snoc (D.take (k - 1)) x y
    rw [← ht1, ← ht2, hkk] at hsn
    have g1 : has (own 23 1 (.slice (some ⟨b, 0, none⟩) D.length c) D.length (u32s D) :: Γ) (fun m => cellAt m b k (.int .u32 (y : Int))) := ownU_cell hy
    have g2 : has (own 23 1 (.slice (some ⟨b, 0, none⟩) D.length c) D.length (u32s D) :: Γ) (fun m => cellAt m b (k - 1) (.int .u32 (x : Int))) := ownU_cell hx
    refine m_run ?_
    refine TK.drawS mixed rfl ?_
    refine m_take (At.mk : At 0) ?_; refine m_take (At.mk : At 1) ?_; refine m_take (At.mk : At 2) ?_; refine m_take (At.mk : At 3) ?_; refine m_take (At.mk : At 4) ?_; refine m_take (At.mk : At 5) ?_; refine m_take (At.mk : At 6) ?_
    refine TA.know (t := 22) (v := .int .i64 ((k - 1 : Nat) : Int)) (congrArg (Value.int .i64) (by rw [i64_in (by omega) (by omega)]; omega)) ?_
    refine m_take (At.mk : At 7) ?_; refine m_take (At.mk : At 8) ?_; refine m_take (At.mk : At 9) ?_
    by_cases hxy : x = y
    · refine TA.isT 25 rfl (beq_iff_eq.2 (by omega)) ?_
      refine TA.done (by kernel_rfl) ?_
      rw [if_pos hxy] at hsn
      clear IH
      refine m_run ?_
      have hck : c ≠ k := by omega
      (apply TL.pv; exact rfl; (apply PV.sliceS (i := k) (j := D.length); exact rfl; exact tb rfl; exact rfl; exact tb rfl; exact .some rfl; exact .none; exact Nat.le_of_lt hk; exact hcap))
      refine TL.know (t := 28) (v := .slice (some ⟨b, k, none⟩) (D.length - k) (c - k)) (congrArg (fun z => Value.slice z (D.length - k) (c - k)) (by
        rw [if_neg hck]
        show some (Addr.add _ _) = _
        rw [add_at, Nat.mul_one, Nat.zero_add])) ?_
      refine m_run ?_
      apply TK.iter (fun j ρ' Γ' => ∃ (q : Nat) (L : List Nat), k + q + j = D.length ∧ 1 ≤ q ∧ L.length = D.length ∧ L.take (compL (D.take (k + q))).length = compL (D.take (k + q)) ∧ L.drop (k + q - 1) = D.drop (k + q - 1) ∧ (compL (D.take (k + q))).length ≤ k + q - 1 ∧ lk ρ' 0 = .slice (some ⟨b, 0, none⟩) D.length c ∧ lk ρ' 3 = .int .i64 ((compL (D.take (k + q))).length : Int) ∧ lk ρ' 4 = .slice (some ⟨b, k, none⟩) (D.length - k) (c - k) ∧ lk ρ' 5 = .int .i64 (q : Int) ∧ Γ' = own 23 1 (.slice (some ⟨b, 0, none⟩) D.length c) D.length (u32s L) :: Γ) (D.length - k - 1)
      · refine ⟨1, D, by omega, Nat.le_refl _, rfl, ?_, rfl, ?_, rfl, ?_, rfl, rfl, rfl⟩
        · rw [hsn, List.length_take, Nat.min_eq_left (by omega)]
        · rw [hsn, List.length_take]; omega
        · rw [hsn, List.length_take, Nat.min_eq_left (by omega)]; rfl
      rintro j2 IH2 ρ2 _ ⟨q, L, hqj, hq1, hLl, hLt, hLd, hkk2, f0, f3, f4, f5, rfl⟩
      generalize hK : compL (D.take (k + q)) = K at *
      refine TK.know4 f0 f3 f4 f5 ?_
      by_cases hq : k + q < D.length
      · obtain ⟨v, hv⟩ : ∃ v, D[k + q]? = some v := ⟨D[k + q], List.getElem?_eq_getElem hq⟩
        obtain ⟨u, hu⟩ : ∃ u, D[k + q - 1]? = some u := ⟨D[k + q - 1], List.getElem?_eq_getElem (by omega)⟩
        obtain ⟨tt1, tt2⟩ := take_two hu hv (by omega)
        have hsn2 := compL_snoc (D.take (k + q - 1)) u v
        rw [← tt1, ← tt2, hK] at hsn2
        have hLget : ∀ p, k + q - 1 ≤ p → L[p]? = D[p]? := fun p hp => by
          have := congrArg (fun l => l[p - (k + q - 1)]?) hLd
          simp only [List.getElem?_drop] at this
          rwa [show k + q - 1 + (p - (k + q - 1)) = p by omega] at this
        have c1 : has (own 23 1 (.slice (some ⟨b, 0, none⟩) D.length c) D.length (u32s L) :: Γ) (fun m => cellAt m b (k + q) (.int .u32 (v : Int))) := ownU_cell (by rw [hLget _ (by omega), hv])
        have c2 : has (own 23 1 (.slice (some ⟨b, 0, none⟩) D.length c) D.length (u32s L) :: Γ) (fun m => cellAt m b (k + (q - 1)) (.int .u32 (u : Int))) := ownU_cell (by rw [hLget _ (by omega), show k + (q - 1) = k + q - 1 by omega, hu])
        refine m_run ?_
        refine TK.drawS mixed rfl ?_
        refine m_take (At.mk : At 0) ?_; refine m_take (At.mk : At 1) ?_; refine m_take (At.mk : At 2) ?_; refine m_take (At.mk : At 3) ?_; refine m_take (At.mk : At 4) ?_; refine m_take (At.mk : At 5) ?_; refine m_take (At.mk : At 6) ?_
        refine TA.know (t := 41) (v := .int .i64 ((q - 1 : Nat) : Int)) (congrArg (Value.int .i64) (by rw [i64_in (by omega) (by omega)]; omega)) ?_
        refine m_take (At.mk : At 7) ?_; refine m_take (At.mk : At 8) ?_; refine m_take (At.mk : At 9) ?_
        by_cases huv : u = v
        · refine TA.isF 44 rfl (bne_eq_false_iff_eq.2 (by omega)) ?_
          refine TA.done (by kernel_rfl) ?_
          rw [if_pos huv] at hsn2
          refine m_run ?_
          refine IH2 (j2 - 1) _ _ (by omega) ⟨q + 1, L, by omega, by omega, hLl, ?_, ?_, ?_, rfl, ?_, rfl, congrArg (Value.int .i64) (i64_succ q (by omega)), rfl⟩
          · rw [← Nat.add_assoc, hsn2]; exact hLt
          · have := congrArg (List.drop 1) hLd
            rw [List.drop_drop, List.drop_drop] at this
            rwa [show k + q - 1 + 1 = k + (q + 1) - 1 by omega] at this
          · rw [← Nat.add_assoc, hsn2]; omega
          · rw [← Nat.add_assoc, hsn2]; rfl
        · refine TA.isT 44 rfl (bne_iff_ne.2 (by omega)) ?_
          refine TA.done (by kernel_rfl) ?_
          rw [if_neg huv] at hsn2
          refine m_run ?_
          (apply TL.storeOwn 0 K.length; exact rfl; exact rfl; exact rfl; exact rfl; exact tb rfl; exact rfl; exact (Nat.zero_add _).symm)
          · omega
          refine TL.imp (Δ := own 23 1 (.slice (some ⟨b, 0, none⟩) D.length c) D.length (u32s (L.set K.length v)) :: Γ) (fun _ h => by rw [← u32s_set]; exact h) ?_
          have hKL : K.length < L.length := by omega
          have ht3 : (L.set K.length v).take (K.length + 1) = K ++ [v] := by
            rw [List.take_add_one, List.getElem?_set_self hKL, List.take_set_of_le (Nat.le_refl _), hLt]
            rfl
          refine m_run ?_
          refine IH2 (j2 - 1) _ _ (by omega) ⟨q + 1, L.set K.length v, by omega, by omega, by rw [List.length_set]; exact hLl, ?_, ?_, ?_, rfl, ?_, rfl, congrArg (Value.int .i64) (i64_succ q (by omega)), rfl⟩
          · rw [← Nat.add_assoc, hsn2, List.length_append]; exact ht3
          · rw [show k + (q + 1) - 1 = k + q by omega, List.drop_set_of_lt (by omega)]
            have := congrArg (List.drop 1) hLd
            rw [List.drop_drop, List.drop_drop] at this
            rwa [show k + q - 1 + 1 = k + q by omega] at this
          · rw [← Nat.add_assoc, hsn2, List.length_append, List.length_singleton]; omega
          · rw [← Nat.add_assoc, hsn2, List.length_append, List.length_singleton]; exact congrArg (Value.int .i64) (i64_succ K.length (by omega))
      have hkq : k + q = D.length := by omega
      rw [hkq, List.take_length] at hK
      rw [hK]
      clear IH2
      have hck2 : c ≠ K.length := by omega
      refine m_run ?_
      (apply TL.pv; exact rfl; (apply PV.sliceS (i := K.length) (j := D.length); exact rfl; exact tb rfl; exact rfl; exact tb rfl; exact .some rfl; exact .none; exact (by omega); exact hcap))
      refine TL.know (t := 56) (v := .slice (some ⟨b, K.length, none⟩) (D.length - K.length) (c - K.length)) (congrArg (fun z => Value.slice z (D.length - K.length) (c - K.length)) (by
        rw [if_neg hck2]
        show some (Addr.add _ _) = _
        rw [add_at, Nat.mul_one, Nat.zero_add])) ?_
      (apply TL.clearOwn (o := K.length) (m := D.length - K.length) 0; exact rfl; exact rfl; exact tb rfl; exact rfl; exact tb rfl; exact rfl; exact rfl; exact (by omega); exact (by omega))
      refine TL.imp (Δ := own 23 1 (.slice (some ⟨b, 0, none⟩) K.length c) K.length (u32s K) :: Γ) (fun m h => sep_mono h (fun q hq => ?_) (fun _ => id)) ?_
      · have h1 := own_cut (k := K.length) hq (by omega) (by omega)
        have h3 : ((u32s L).take K.length ++ List.replicate (D.length - K.length) (Value.int .u32 0) ++ (u32s L).drop (K.length + (D.length - K.length))).take K.length = u32s K := by
          rw [List.append_assoc, List.take_append_of_le_length (by rw [List.length_take, u32s_len]; omega), List.take_take, Nat.min_self]
          unfold u32s
          rw [← List.map_take, hLt]
        rw [← h3]
        exact h1
      refine m_run ?_
      (apply TL.pv; exact rfl; (apply PV.sliceS (i := 0) (j := K.length); exact rfl; exact tb rfl; exact rfl; exact tb rfl; exact .none; exact .some rfl; exact (by omega); exact (by omega)))
      refine TL.know (t := 59) (v := .slice (some ⟨b, 0, none⟩) K.length c) (by
        show Value.slice (if c = 0 then some ⟨b, 0, none⟩ else some (Addr.add ⟨b, 0, none⟩ (0 * 1))) (K.length - 0) (c - 0) = _
        rw [if_neg (by omega), add_at]
        rfl) ?_
      refine m_run ?_
      (apply TK.ret1; exact rfl; exact rfl; (exact m_val))
      exact ⟨_, rfl, rfl, rfl⟩
    · refine TA.isF 25 rfl (beq_eq_false_iff_ne.2 (by omega)) ?_
      refine TA.done (by kernel_rfl) ?_
      rw [if_neg hxy] at hsn
      have hk2 : compL (D.take (k + 1)) = D.take (k + 1) := by rw [hsn, List.take_add_one, hy]; rfl
      refine m_run ?_
      exact IH (j - 1) _ _ (by omega) ⟨k + 1, by omega, by omega, hk2, rfl, congrArg (Value.int .i64) (i64_succ k (by omega)), rfl⟩
  obtain rfl : k = D.length := by omega
  rw [List.take_length] at hkk
  rw [hkk]
  refine m_run ?_
  (apply TK.ret1; exact rfl; exact rfl; (exact m_val))
  exact ⟨_, rfl, rfl, rfl⟩
def varsOf (l : List Tm) : List Nat := (l.filter (·.v)).map (·.n)
theorem varsOf_snoc (l : List Tm) (x : Tm) : varsOf (l ++ [x]) = if x.v then varsOf l ++ [x.n] else varsOf l := by
  unfold varsOf
  rw [List.filter_append, List.map_append]
  cases hx : x.v <;> simp [hx]
theorem varsOf_len (l : List Tm) : (varsOf l).length ≤ l.length := by
  unfold varsOf
  rw [List.length_map]
  exact List.length_filter_le _ _
theorem u32s_snoc (l : List Nat) (x : Nat) : u32s l ++ [.int .u32 (x : Int)] = u32s (l ++ [x]) := by simp [u32s]
theorem compL_mem : ∀ (l : List Nat) (x : Nat), x ∈ compL l ↔ x ∈ l
  | [], x => Iff.rfl
  | [a], x => Iff.rfl
  | a :: b :: l, x => by
    have ih := compL_mem (b :: l) x
    have h : compL (a :: b :: l) = if a = b then compL (b :: l) else a :: compL (b :: l) := rfl
    rw [h]
    split
    · rename_i hab
      rw [ih, hab]
      simp
    · rw [List.mem_cons, ih, List.mem_cons (a := x) (b := a)]
end Go.Proofs.YthbcfamfaicneaaGreat.E

/- Which programs may be, plainly: lengths of predicates, variables that are held. -/
namespace Go.Proofs.YthbcfamfaicneaaGreat.E
open Go Go.RowKit
/-- The atoms of a clause: predicate and length. -/
def atsOf (c : Cl) : List (Nat × Nat) := (c.h.p, c.h.l.length) :: c.l.map fun x => (x.a.p, x.a.l.length)
def atsL (l : List Cl) : List (Nat × Nat) := l.flatMap atsOf
def fitB (o : Option Nat) (n : Nat) : Bool := match o with | none => true | some m => decide (m = n)
def stepB : List (Nat × Nat) → List (Nat × Nat) → Bool
  | _, [] => true
  | L, a :: bs => fitB (lookE L a.1) a.2 && stepB (L ++ [a]) bs
/-- Each predicate has one length. -/
def Cons (L : List (Nat × Nat)) : Prop := ∀ a ∈ L, ∀ b ∈ L, a.1 = b.1 → a.2 = b.2
def consB (L : List (Nat × Nat)) : Bool := L.all fun a => L.all fun b => !decide (a.1 = b.1) || decide (a.2 = b.2)
theorem consB_iff {L : List (Nat × Nat)} : consB L = true ↔ Cons L := by
  simp only [consB, Cons, List.all_eq_true, Bool.or_eq_true, Bool.not_eq_true', decide_eq_false_iff_not, decide_eq_true_eq]
  constructor
  · intro h a ha b hb e
    rcases h a ha b hb with h | h
    · exact absurd e h
    · exact h
  · intro h a ha b hb
    by_cases e : a.1 = b.1
    · exact .inr (h a ha b hb e)
    · exact .inl e
theorem Cons.mono {L M : List (Nat × Nat)} (h : Cons M) (hs : ∀ a ∈ L, a ∈ M) : Cons L := fun a ha b hb => h a (hs a ha) b (hs b hb)
theorem cons_nil : Cons [] := fun a ha => by cases ha
/-! ### what is held -/
/-- The literals of one kind. -/
def litsOf (no : Bool) (l : List Lt) : List Lt := l.filter fun x => x.no == no
def posV (l : List Lt) : List Nat := (litsOf false l).flatMap fun x => varsOf x.a.l
def heldA (V : List Nat) (l : List Tm) : Bool := (varsOf l).all fun v => decide (v ∈ V)
def heldC (c : Cl) : Bool := heldA (posV c.l) c.h.l && (litsOf true c.l).all fun x => heldA (posV c.l) x.a.l
theorem litsOf_snoc {no : Bool} {l : List Lt} {i : Nat} {x : Lt} (h : l[i]? = some x) : litsOf no (l.take (i + 1)) = if x.no == no then litsOf no (l.take i) ++ [x] else litsOf no (l.take i) := by
  unfold litsOf
  rw [List.take_add_one, h, List.filter_append]
  by_cases hx : (x.no == no) = true <;> simp [hx]
/-! ### what is wrong -/
def wrong1 (L : List (Nat × Nat)) (c : Cl) : Int := if mayC c then (if heldC c then (if consB (L ++ atsOf c) then 0 else 9) else 10) else 8
theorem wrong1_zero {L : List (Nat × Nat)} {c : Cl} : wrong1 L c = 0 ↔ mayC c = true ∧ heldC c = true ∧ Cons (L ++ atsOf c) := by
  unfold wrong1
  rw [← consB_iff]
  cases mayC c <;> cases heldC c <;> cases consB (L ++ atsOf c) <;> simp
def okTo (l : List Cl) (i : Nat) : Prop := ∀ k c, k < i → l[k]? = some c → wrong1 (atsL (l.take k)) c = 0
/-- What is told of a program. -/
def Res (l : List Cl) (n : Nat) (e : Int) : Prop := (400 < l.length ∧ n = 0 ∧ e = 6) ∨ (l.length ≤ 400 ∧ ((∃ c, l[n]? = some c ∧ okTo l n ∧ e = wrong1 (atsL (l.take n)) c ∧ e ≠ 0) ∨ (okTo l l.length ∧ n = 0 ∧ e = 0)))
theorem res_one {l : List Cl} {n n' : Nat} {e e' : Int} (h : Res l n e) (h' : Res l n' e') : n = n' ∧ e = e' := by
  rcases h with ⟨h1, h2, h3⟩ | ⟨h1, h⟩ <;> rcases h' with ⟨g1, g2, g3⟩ | ⟨g1, g⟩
  · exact ⟨h2.trans g2.symm, h3.trans g3.symm⟩
  · omega
  · omega
  rcases h with ⟨c, h2, h3, h4, h5⟩ | ⟨h2, h3, h4⟩ <;> rcases g with ⟨d, g2, g3, g4, g5⟩ | ⟨g2, g3, g4⟩
  · rcases Nat.lt_trichotomy n n' with hl | hl | hl
    · exact absurd (h4.trans (g3 n c hl h2)) h5
    · subst hl
      rw [h2] at g2
      injection g2 with g2
      subst g2
      exact ⟨rfl, h4.trans g4.symm⟩
    · exact absurd (g4.trans (h3 n' d hl g2)) g5
  · exact absurd (h4.trans (g2 n c (List.getElem?_eq_some_iff.1 h2).1 h2)) h5
  · exact absurd (g4.trans (h2 n' d (List.getElem?_eq_some_iff.1 g2).1 g2)) g5
  · exact ⟨h3.trans g3.symm, h4.trans g4.symm⟩
theorem atsL_snoc {l : List Cl} {i : Nat} {c : Cl} (h : l[i]? = some c) : atsL (l.take (i + 1)) = atsL (l.take i) ++ atsOf c := by
  unfold atsL
  rw [List.take_add_one, h, List.flatMap_append]
  simp
theorem okTo_cons {l : List Cl} : ∀ {i : Nat}, okTo l i → i ≤ l.length → Cons (atsL (l.take i))
  | 0, _, _ => cons_nil
  | i + 1, h, hl => by
    have hi : l[i]? = some (l[i]'(by omega)) := List.getElem?_eq_getElem (by omega)
    rw [atsL_snoc hi]
    exact (wrong1_zero.1 (h i _ (Nat.lt_succ_self i) hi)).2.2
theorem okTo_snoc {l : List Cl} {i : Nat} {c : Cl} (h : okTo l i) (hc : l[i]? = some c) (hw : wrong1 (atsL (l.take i)) c = 0) : okTo l (i + 1) := by
  intro k d hk hd
  rcases Nat.lt_or_ge k i with hki | hki
  · exact h k d hki hd
  · obtain rfl : k = i := by omega
    rw [hc] at hd; injection hd with hd; subst hd; exact hw
/-! ### facts -/
structure Fct where
  p : Nat
  A : Option Addr
  c : Nat
  l : List Nat
def Fct.cells (f : Fct) : List Value := [.int .u32 (f.p : Int), .slice f.A f.l.length f.c]
def fa (fs : List Fct) : List (Nat × Nat) := fs.map fun f => (f.p, f.l.length)
def badF (L : List (Nat × Nat)) (fs : List Fct) (k : Nat) (f : Fct) : Prop := 6 < f.l.length ∨ ∃ a ∈ L ++ fa (fs.take k), a.1 = f.p ∧ a.2 ≠ f.l.length
def okF (L : List (Nat × Nat)) (fs : List Fct) (i : Nat) : Prop := ∀ k f, k < i → fs[k]? = some f → ¬ badF L fs k f
def ResA (L : List (Nat × Nat)) (fs : List Fct) (n : Nat) (e : Int) : Prop := (∃ f, fs[n]? = some f ∧ okF L fs n ∧ badF L fs n f ∧ e = 9) ∨ (okF L fs fs.length ∧ n = 0 ∧ e = 0)
theorem okF_snoc {L : List (Nat × Nat)} {fs : List Fct} {i : Nat} {f : Fct} (h : okF L fs i) (hf : fs[i]? = some f) (hb : ¬ badF L fs i f) : okF L fs (i + 1) := by
  intro k d hk hd
  rcases Nat.lt_or_ge k i with hki | hki
  · exact h k d hki hd
  · obtain rfl : k = i := by omega
    rw [hf] at hd; injection hd with hd; subst hd; exact hb
end Go.Proofs.YthbcfamfaicneaaGreat.E

/- Says, conditions, rules in memory (taken from the Wire texts); clauses without their places. -/
namespace Go.Proofs.YthbcfamfaicneaaGreat.E
open Go Go.RowKit Go.Proofs
attribute [local irreducible] TK TL TQ TA Fn PV
/-- What is said: a bool, a term, an atom. -/
structure Sy where
  s : Bool
  w : Tm
  a : Atm
def Sy.cells (y : Sy) : List Value := [.bool y.s, .bool y.w.v, .int .u32 (y.w.n : Int), .int .u32 (y.a.p : Int), .slice y.a.A y.a.l.length y.a.c]
structure Cd where
  no : Bool
  y : Sy
def Cd.cells (x : Cd) : List Value := .bool x.no :: x.y.cells
abbrev cdsC (l : List Cd) : List Value := l.flatMap Cd.cells
theorem cdsC_len (l : List Cd) : (cdsC l).length = l.length * 6 := by
  induction l with
  | nil => rfl
  | cons x l ih => rw [show cdsC (x :: l) = x.cells ++ cdsC l from rfl, List.length_append, ih, List.length_cons, show x.cells.length = 6 from rfl]; omega
structure Rl where
  h : Sy
  A : Option Addr
  c : Nat
  l : List Cd
def Rl.cells (r : Rl) : List Value := r.h.cells ++ [.slice r.A r.l.length r.c]
def Rl.ok (r : Rl) (Γ : List HP) : Prop := r.h.a.ok Γ ∧ has Γ (srcAt 6 r.A r.l.length (cdsC r.l)) ∧ r.l.length ≤ r.c ∧ ∀ x ∈ r.l, x.y.a.ok Γ
theorem Rl.ok_tl {a : Rl} {Γ : List HP} {H : HP} (h : a.ok Γ) : a.ok (H :: Γ) := ⟨Atm.ok_tl h.1, has_tls h.2.1, h.2.2.1, fun x hx => Atm.ok_tl (h.2.2.2 x hx)⟩
def Rl.small (r : Rl) : Prop := r.l.length ≤ 1000000 ∧ r.h.a.l.length ≤ 1000000 ∧ ∀ x ∈ r.l, x.y.a.l.length ≤ 1000000
/-! ### clauses without their places in memory -/
abbrev PL := Bool × Nat × List Tm
abbrev PC := Nat × List Tm × List PL
def pureL (x : Lt) : PL := (x.no, x.a.p, x.a.l)
def pureC (c : Cl) : PC := (c.h.p, c.h.l, c.l.map pureL)
def mayP (d : PC) : Bool := decide (d.2.2.length ≤ 8) && mayA d.2.1 && !(d.2.2.any fun x => !mayA x.2.2)
def posP (L : List PL) : List Nat := (L.filter fun x => x.1 == false).flatMap fun x => varsOf x.2.2
def heldP (d : PC) : Bool := heldA (posP d.2.2) d.2.1 && (d.2.2.filter fun x => x.1 == true).all fun x => heldA (posP d.2.2) x.2.2
def atsP (d : PC) : List (Nat × Nat) := (d.1, d.2.1.length) :: d.2.2.map fun x => (x.2.1, x.2.2.length)
theorem mayC_pure (c : Cl) : mayC c = mayP (pureC c) := by
  unfold mayC mayP pureC
  simp only [List.length_map, List.any_map]
  rfl
theorem posV_pure (l : List Lt) : posV l = posP (l.map pureL) := by
  unfold posV posP litsOf
  rw [List.filter_map, List.flatMap_map]
  rfl
theorem heldC_pure (c : Cl) : heldC c = heldP (pureC c) := by
  unfold heldC heldP pureC
  rw [posV_pure]
  simp only
  rw [List.filter_map, List.all_map]
  rfl
end Go.Proofs.YthbcfamfaicneaaGreat.E

/- Credentials and what they say, plainly: which may be, what they are as clauses. -/
namespace Go.Proofs.YthbcfamfaicneaaGreat.E
open Go Go.RowKit
/-- A credential, as it lies in memory. -/
structure Cr where
  iss : Nat
  ser : Nat
  frm : Nat
  til : Nat
  kind : Nat
  r : Rl
  p : Nat
  args : Int
  to : Nat
  dep : Int
def Cr.cells (c : Cr) : List Value := [.int .u32 (c.iss : Int), .int .u64 (c.ser : Int), .int .u64 (c.frm : Int), .int .u64 (c.til : Int), .int .u8 (c.kind : Int)] ++ c.r.cells ++ [.int .u32 (c.p : Int), .int .i64 c.args, .int .u32 (c.to : Int), .int .i64 c.dep]
def Cr.ok (c : Cr) (Γ : List HP) : Prop := c.r.ok Γ
theorem Cr.ok_tl {c : Cr} {Γ : List HP} {H : HP} (h : c.ok Γ) : c.ok (H :: Γ) := Rl.ok_tl h
/-! ### predicates -/
def predS (p : Nat) (n : Int) (said : Bool) (depth : Int) : Nat × Bool :=
  if 16777216 ≤ p ∨ n < 0 ∨ 6 < n then (0, false) else
    if said = false then (64 * p + 8 * n.toNat, true) else
      if depth < 0 ∨ 3 < depth then (0, false) else (64 * p + 8 * n.toNat + 1 + depth.toNat, true)
/-! ### atoms here, or said -/
def noWho (y : Sy) : Bool := decide (y.w = ⟨false, 0⟩)
def flatB (y : Sy) (depth : Int) : Bool := (predS y.a.p y.a.l.length y.s depth).2 && (if y.s then decide (y.a.l.length < 6) else noWho y)
def flatP (y : Sy) (depth : Int) : Nat × List Tm := ((predS y.a.p y.a.l.length y.s depth).1, if y.s then y.w :: y.a.l else y.a.l)
/-! ### rules here -/
def hereC (r : Rl) : PC := ((flatP r.h 0).1, (flatP r.h 0).2, r.l.map fun x => (x.no, (flatP x.y 3).1, (flatP x.y 3).2))
def hereB (r : Rl) : Bool := !r.h.s && flatB r.h 0 && (r.l.all fun x => flatB x.y 3) && mayP (hereC r)
/-! ### which credentials may be -/
def ruleC (c : Cr) : PC := (c.r.h.a.p, ⟨false, c.iss⟩ :: c.r.h.a.l, c.r.l.map fun x => (false, x.y.a.p, x.y.w :: x.y.a.l))
def plainS (y : Sy) : Bool := !y.s && noWho y
def ruleB (c : Cr) : Bool := plainS c.r.h && decide (c.p = 0) && decide (c.args = 0) && decide (c.to = 0) && decide (c.dep = 0) && (c.r.l.all fun x => !x.no && x.y.s) && mayP (ruleC c) && heldP (ruleC c)
def giveB (c : Cr) : Bool := plainS c.r.h && decide (c.r.h.a.p = 0) && decide (c.r.h.a.l.length = 0) && decide (c.r.l.length = 0) && decide (0 ≤ c.args) && decide (c.args < 6) && decide (0 ≤ c.dep) && decide (c.dep ≤ 3)
def mayCr (c : Cr) : Bool := decide (c.frm < c.til) && decide (c.til ≤ 1099511627776) && (decide (c.kind = 1) && ruleB c || decide (c.kind = 2) && giveB c)
/-! ### credentials as clauses -/
def varsT (n : Nat) : List Tm := (List.range n).map fun i => ⟨true, i⟩
/-- What an issuer says of a depth. -/
def saidB (p : Nat) (l : List Tm) (d : Int) : Bool := (predS p l.length true d).2 && decide (l.length < 6)
def saidP (p : Nat) (who : Tm) (l : List Tm) (d : Int) : Nat × List Tm := ((predS p l.length true d).1, who :: l)
def oneB (c : Cr) (k : Nat) : Bool :=
  if c.kind = 2 then saidB c.p (varsT c.args.toNat) k && saidB c.p (varsT c.args.toNat) (min ((k : Int) - 1) c.dep)
  else saidB c.r.h.a.p c.r.h.a.l k && c.r.l.all fun x => flatB x.y k
def oneC (c : Cr) (k : Nat) : PC :=
  if c.kind = 2 then ((saidP c.p ⟨false, c.iss⟩ (varsT c.args.toNat) k).1, (saidP c.p ⟨false, c.iss⟩ (varsT c.args.toNat) k).2, [(false, (saidP c.p ⟨false, c.to⟩ (varsT c.args.toNat) (min ((k : Int) - 1) c.dep)).1, (saidP c.p ⟨false, c.to⟩ (varsT c.args.toNat) (min ((k : Int) - 1) c.dep)).2)])
  else ((saidP c.r.h.a.p ⟨false, c.iss⟩ c.r.h.a.l k).1, (saidP c.r.h.a.p ⟨false, c.iss⟩ c.r.h.a.l k).2, c.r.l.map fun x => (false, (flatP x.y k).1, (flatP x.y k).2))
def onesC (c : Cr) : List PC := if mayCr c then ((List.range 4).filter (oneB c)).map (oneC c) else []
def credsC (l : List Cr) : List PC := l.flatMap onesC
end Go.Proofs.YthbcfamfaicneaaGreat.E

/- MY OWN LAYER: append of a made slice of any element's size. P is a variable. -/
namespace Go.Proofs.YthbcfamfaicneaaGreat.E
open Go Go.RowKit
section
variable {cx : Cx} {ops : Array Oper} {K : Act → World → Prop} {rest : List Oper} {ρ : Env} {ds : List Deferred} {Γ : List HP} {d : Nat} {ty : TypeId} {pos : String} {after : Array Edge}
/-- append(nil, make(.., k)...) -/
theorem TL.appZG {t tn e : TypeId} {x y : Operand} {k : Nat} {kq kn : IntKind} {r r' rn : TR} (hd : Nat.blt d cx.n = true) (ht : TabOk cx.P t r) (hq : r.und = .slice e) (ht' : TabOk cx.P e r') (htn : TabOk cx.P tn rn) (hqn : rn.und = .int kn) (hb : Nat.ble r'.bytes 64 = true) (hzs : (r'.zero.cells.size == r'.size) = true) (hsz : Nat.blt 0 r'.size = true)
    (ea : ev ρ x = .slice none 0 0) (eb : ev ρ y = .int kq (k : Int)) (h0 : 0 < k) (hlim : k ≤ 1099511627776)
    (h : ∀ A c Z, k ≤ c → TL cx ops K rest ((d, .slice A k c) :: ρ) ds (own e r'.size (.slice A k c) k Z :: Γ)) : TL cx ops K (⟨some d, .call ⟨.builtin .append, #[x, y], #[t, tn]⟩, ty, pos, after, none⟩ :: rest) ρ ds Γ :=
  .act (X := Nat × Nat) (φ := fun p => k ≤ p.2) (v := fun p => .slice (some ⟨p.1, 0, none⟩) k p.2) (Δ := fun p => own e r'.size (.slice (some ⟨p.1, 0, none⟩) k p.2) k (Builtin.zeroCells r'.zero.cells k).toList :: Γ) hd (fun w hS => by
    obtain ⟨_, i, hi, h1, h2, h3⟩ := id ht'
    have hb' : r'.bytes ≤ 64 := by simpa using hb
    have hbi : i.bytes ≤ 64 := by omega
    have hzs' : r'.zero.cells.size = r'.size := by simpa using hzs
    have hsz' : 0 < r'.size := by simpa using hsz
    have hcap : Builtin.nextslicecap (0 + k) 0 * i.bytes ≤ 281474976710656 := growslice_fits (need := 0 + k) (old := 0) (bytes := i.bytes) (by omega) (by
      have : (0 + k) * i.bytes ≤ 1099511627776 * 64 := Nat.mul_le_mul (by omega) hbi
      omega)
    have hrun := Go.Lib.run_append_grow_zeros (P := cx.P) w t tn ty e i r'.zero kq kn (by rw [ht.1, hq]) (by rw [htn.1, hqn]) hi h3 none 0 0 [] (run_firstCells_none w.drew i.size 0 0 0) k h0 (by omega) (by omega) (by omega) (by
      have : k * i.bytes ≤ 1099511627776 * 64 := Nat.mul_le_mul hlim hbi
      omega) hcap
    have hge := grownCap_ge w (0 + k) 0 e
    rw [Nat.zero_add] at hrun hge
    have hrun2 : (execOp (ev ρ) ⟨some d, .call ⟨.builtin .append, #[x, y], #[t, tn]⟩, ty, pos, after, none⟩).run cx.P w = .ok (.value (.slice (some ⟨w.heap.size, 0, none⟩) k (grownCap w k 0 e))) (w.drew.alloc (.cells (#[] ++ Builtin.zeroCells r'.zero.cells k ++ Builtin.zeroCells r'.zero.cells (grownCap w k 0 e - k)) e)) := by
      simp only [execOp, resolve, invoke, builtin, List.map_toArray, List.map_cons, List.map_nil, ea, eb, Sem.run_bind, Sem.run_pure, Result.andThen_ok]
      rw [hrun]
      rfl
    refine ⟨(w.heap.size, grownCap w k 0 e), _, hge, ?_, hrun2⟩
    have h5 := hS.drew.alloc (.cells (#[] ++ Builtin.zeroCells r'.zero.cells k ++ Builtin.zeroCells r'.zero.cells (grownCap w k 0 e - k)) e)
    have h63 := grownCap_le_maxLen w k 0 e (by unfold maxLen; omega)
    have hl1 : (Builtin.zeroCells r'.zero.cells k).toList.length = k * r'.size := by rw [size_zeroCells', hzs']
    refine h5.imp fun m hm => sep_mono hm (fun q hq => ⟨hl1, .inr ⟨_, grownCap w k 0 e, (Builtin.zeroCells r'.zero.cells k).toList ++ (Builtin.zeroCells r'.zero.cells (grownCap w k 0 e - k)).toList, rfl, hge, h63, ?_, ?_, ?_⟩⟩) (fun _ => id)
    · rw [List.length_append, hl1, size_zeroCells', hzs', ← Nat.add_mul]
      congr 1
      omega
    · rw [← hl1, List.take_left']
      rfl
    · have e1 : ((Builtin.zeroCells r'.zero.cells k).toList ++ (Builtin.zeroCells r'.zero.cells (grownCap w k 0 e - k)).toList).toArray = #[] ++ Builtin.zeroCells r'.zero.cells k ++ Builtin.zeroCells r'.zero.cells (grownCap w k 0 e - k) := by simp
      show pt _ _ q
      rw [e1]
      exact hq) (fun p hp => h _ p.2 _ hp)
end
end Go.Proofs.YthbcfamfaicneaaGreat.E

/- Terms put one behind the other: Grow, Concat, Clone; a said atom, flat: walked. -/
namespace Go.Proofs.YthbcfamfaicneaaGreat.E
open Go Go.RowKit Go.Proofs
attribute [local irreducible] TK TL TQ TA TB Fn PV
theorem tmsC_one (l : List Tm) : ∀ u ∈ tmsC l, u.oneCell' = true := by
  intro u hu
  obtain ⟨p, _, hp⟩ := List.mem_flatMap.1 hu
  simp only [tmC, List.mem_cons, List.not_mem_nil, or_false] at hp
  rcases hp with rfl | rfl <;> rfl
abbrev ownTm (A : Option Addr) (k : Nat) (T : List Tm) : HP := own 27 2 (.slice A T.length k) T.length (tmsC T)
set_option maxRecDepth 100000 in
set_option maxHeartbeats 1000000 in
theorem grow_t (n : Nat) (Γ : List HP) (hn : n ≤ 2000000) : FnV Tryz.prog 209 [.slice none 0 0, .int .i64 (n : Int)] Γ fun v Γ' => ∃ A c, n ≤ c ∧ v = .slice A 0 c ∧ Γ' = ownTm A c [] :: Γ := by
  refine Fn.enter Tryz.func209 rfl rfl rfl fun E => ?_
  by_cases h0 : n = 0
  · subst h0
    refine TK.free (H := ownTm none 0 []) (fun m hm => own_nil _ _ hm) ?_
    refine m_run ?_
    (apply TK.ret1; exact rfl; exact rfl; (exact m_val))
    exact ⟨_, rfl, none, 0, Nat.le_refl _, rfl, rfl⟩
  · refine m_run ?_
    rw [show IntKind.i64.wrap ((n : Int) - IntKind.i64.wrap (((0 : Nat) : Int) - ((0 : Nat) : Int))) = n by rw [i64_in (x := ((0 : Nat) : Int) - ((0 : Nat) : Int)) (by omega) (by omega), i64_in (by omega) (by omega)]; omega]
    refine m_run ?_
    (apply TL.sliceHi; exact rfl; exact rfl; exact rfl; exact tb rfl; exact rfl; exact tb rfl; exact Int.le_refl _; exact Int.natCast_nonneg _)
    refine m_run ?_
    (apply TL.appZG; exact rfl; exact tb rfl; exact rfl; exact tb rfl; exact tb rfl; exact rfl; exact rfl; exact rfl; exact rfl; exact rfl; exact rfl; exact (by omega); exact (by omega))
    intro A c Z hc
    refine m_run ?_
    (apply TL.sliceHi; exact rfl; exact rfl; exact rfl; exact tb rfl; exact rfl; exact tb rfl; exact Int.le_refl _; exact Int.natCast_nonneg _)
    refine TL.imp (Δ := ownTm A c [] :: Γ) (fun m hm => sep_mono hm (fun _ h => by
      have := own_shrink h (Nat.zero_le n)
      rw [Nat.zero_mul, List.take_zero] at this
      exact this) (fun _ h => h)) ?_
    refine m_run ?_
    (apply TK.ret1; exact rfl; exact rfl; (exact m_val))
    exact ⟨_, rfl, A, c, hc, rfl, rfl⟩
set_option maxRecDepth 100000 in
set_option maxHeartbeats 2000000 in
/-- Concat of one term and others. -/
theorem concat_t (b0 b1 : Nat) (w : Tm) (A : Option Addr) (c : Nat) (l : List Tm) (Γ : List HP) (h0 : has Γ (srcAt 1 (some ⟨b0, 0, none⟩) 2 [.slice (some ⟨b1, 0, none⟩) 1 1, .slice A l.length c])) (h1 : has Γ (srcAt 2 (some ⟨b1, 0, none⟩) 1 (tmsC [w]))) (hs : has Γ (srcAt 2 A l.length (tmsC l))) (hk : l.length ≤ 1000000) :
    FnV Tryz.prog 196 [.slice (some ⟨b0, 0, none⟩) 2 2] Γ fun v Γ' => ∃ A' c', (w :: l).length ≤ c' ∧ v = .slice A' (w :: l).length c' ∧ Γ' = ownTm A' c' (w :: l) :: Γ := by
  refine Fn.enter Tryz.func196 rfl rfl rfl fun E => ?_
  have hA : has Γ (fun m => cellAt m b0 0 (.slice (some ⟨b1, 0, none⟩) 1 1)) := has_imp h0 fun m hm => by
    rcases hm.2 with h | ⟨b, o, e, h⟩
    · cases h
    · injection e with e; injection e with e1 e2 _; subst e1; subst e2; exact h 0 _ rfl
  have hB : has Γ (fun m => cellAt m b0 1 (.slice A l.length c)) := has_imp h0 fun m hm => by
    rcases hm.2 with h | ⟨b, o, e, h⟩
    · cases h
    · injection e with e; injection e with e1 e2 _; subst e1; subst e2; exact h 1 _ rfl
  refine m_run ?_
  refine TK.loop ?_
  refine m_run ?_
  refine TK.inLoop ?_
  refine m_run ?_
  refine TL.know (t := 11) (v := .int .i64 ((1 : Nat) : Int)) rfl ?_
  refine m_run ?_
  rw [show IntKind.i64.wrap (IntKind.i64.wrap (0 + ((1 : Nat) : Int)) + (l.length : Int)) = ((l.length + 1 : Nat) : Int) by rw [i64_in (x := 0 + ((1 : Nat) : Int)) (by omega) (by omega), i64_in (by omega) (by omega)]; omega]
  refine m_run ?_
  refine TK.inLoop ?_
  refine m_run ?_
  (apply TL.callV; exact rfl; exact callB_of (by kernel_rfl); exact rfl; exact fun _ h => h)
  exact grow_t (l.length + 1) Γ (by omega)
  rintro _ _ ⟨B, k, hk, rfl, rfl⟩
  refine m_run ?_
  refine TK.loop ?_
  refine m_run ?_
  (apply TL.append 0; exact rfl; exact rfl; exact tb rfl; exact rfl; exact tb rfl; exact rfl; exact rfl; exact rfl)
  · exact fun _ h => h
  · exact rfl
  · exact has_tls h1
  · exact tmsC_one [w]
  · show (0 + 1) * 8 ≤ _; omega
  · show 0 + 1 ≤ maxLen; unfold maxLen; omega
  · exact fun _ => (rfl : _ = _ :: _)
  intro B2 k2 hk2
  refine m_run ?_
  refine TK.inLoop ?_
  refine m_run ?_
  refine TL.know (t := 27) (v := .int .i64 ((1 : Nat) : Int)) rfl ?_
  refine m_run ?_
  (apply TL.append 0; exact rfl; exact rfl; exact tb rfl; exact rfl; exact tb rfl; exact rfl; exact rfl; exact rfl)
  · exact fun _ h => h
  · exact rfl
  · exact has_tls hs
  · exact tmsC_one l
  · show (0 + 1 + l.length) * 8 ≤ _; omega
  · show 0 + 1 + l.length ≤ maxLen; unfold maxLen; omega
  · exact fun _ => (rfl : _ = _ :: _)
  intro B3 k3 hk3
  refine m_run ?_
  refine TK.inLoop ?_
  rw [show ([] : List Tm).length + 1 + l.length = (w :: l).length by simp; omega] at *
  refine m_run ?_
  (apply TK.ret1; exact rfl; exact rfl; (exact m_val))
  exact ⟨_, rfl, B3, k3, hk3, rfl, rfl⟩
theorem flat_t (w : Tm) (a : Atm) (Γ : List HP) (ha : a.ok Γ) (hk : a.l.length ≤ 1000000) :
    FnV Tryz.prog 173 [.agg (tmC w).toArray, .agg a.cells.toArray] Γ fun v Γ' => ∃ B k, (w :: a.l).length ≤ k ∧ v = .agg (Atm.cells ⟨a.p, B, k, w :: a.l⟩).toArray ∧ Γ' = ownTm B k (w :: a.l) :: Γ := by
  refine Fn.enter Tryz.func173 rfl rfl rfl fun E => ?_
  obtain ⟨p, A, c, l⟩ := a
  refine m_run ?_
  (apply TL.box; exact rfl; exact rfl; (exact m_lst))
  intro b2
  refine m_run ?_
  (apply TL.box; exact rfl; exact rfl; (exact m_lst))
  intro b3
  refine m_run ?_
  (apply TL.alloc; exact rfl; exact tb rfl; exact (rfl : _ = [_, _]))
  intro b4
  refine TL.imp (Δ := row b4 [.int .u32 0, .slice none 0 0] 30 :: row b3 [.int .u32 (p : Int), .slice A l.length c] 30 :: row b2 [.bool w.v, .int .u32 (w.n : Int)] 27 :: Γ) (fun _ h => h) ?_
  refine m_run ?_
  refine TK.drawB mixed rfl 9 (row b4 [.int .u32 0, .slice none 0 0] 30 :: row b3 [.int .u32 (p : Int), .slice A l.length c] 30 :: row b2 [.bool w.v, .int .u32 (w.n : Int)] 27 :: Γ) Γ ?_
  refine m_bake (At.mk : At 0) ?_; refine m_bake (At.mk : At 1) ?_; refine m_bake (At.mk : At 2) ?_; refine m_bake (At.mk : At 4) ?_; refine m_bake (At.mk : At 5) ?_
  (apply TB.one 3; kernel_rfl; exact rfl; exact rfl)
  (apply TL.buildSlice (l := tmsC [w]); exact rfl; exact tb rfl; exact rfl; exact tb rfl; exact rfl; exact rfl; exact rfl; exact rfl; exact rfl)
  intro b8
  refine TL.backB (by (focus ((repeat (first | assumption | exact Ent.refl _ | apply Ent.tail)); done))) ?_
  (apply TB.one 6; kernel_rfl; exact rfl; exact rfl)
  (apply TL.buildSlice (l := [.slice (some ⟨b8, 0, none⟩) 1 1, .slice A l.length c]); exact rfl; exact tb rfl; exact rfl; exact tb rfl; exact rfl; exact rfl; exact rfl; exact rfl; exact rfl)
  intro b11
  refine TL.backB (by (focus ((repeat (first | assumption | exact Ent.refl _ | apply Ent.tail)); done))) ?_
  (apply TB.one 7; kernel_rfl; exact rfl; exact rfl)
  (apply TL.callV; exact rfl; exact callB_of (by kernel_rfl); exact rfl; exact fun _ h => h)
  exact concat_t b11 b8 w A c l _ (has_src_row 0 rfl rfl) (has_src_row 1 rfl rfl) (has_tls (has_tls (has_tls (has_tls (has_tls ha.1))))) hk
  rintro _ _ ⟨B, k, hk, rfl, rfl⟩
  refine TL.backB (by (focus ((repeat (first | assumption | exact Ent.refl _ | apply Ent.tail)); done))) ?_
  (apply TB.takeA (At.mk : At 8); exact rfl; exact rfl; kernel_rfl; exact rfl; ((focus ((repeat (first | assumption | exact Ent.refl _ | apply Ent.tail)); done))); (apply PV.build tabs; exact rfl; exact rfl; exact rfl; exact rfl; exact rfl; exact (rfl : _ = Atm.cells ⟨p, B, k, w :: l⟩)))
  (apply TB.last; kernel_rfl; exact rfl)
  (apply TL.storeAggR 3; exact rfl; exact rfl; exact rfl; exact rfl; exact tb rfl; exact rfl; exact rfl; (exact m_lst); exact (rfl : _ = _ :: _ :: _ :: _ :: _))
  refine TL.back (by (focus ((repeat (first | assumption | exact Ent.refl _ | apply Ent.tail)); done))) ?_
  refine TA.done (by kernel_rfl) ?_
  refine m_run ?_
  (apply TK.retRow (i := 3) (Δ := ownTm B k (w :: l) :: Γ); exact rfl; exact rfl; exact rfl; exact rfl; exact tb rfl; exact rfl; exact (rfl : _ = [_, _]); exact rfl)
  · exact ⟨_, rfl, B, k, hk, rfl, rfl⟩
  · (repeat (first | exact List.Sublist.refl _ | apply List.Sublist.cons_cons | apply List.Sublist.cons))
end Go.Proofs.YthbcfamfaicneaaGreat.E

/- Numbers that are sorted: a row as an array. -/
namespace Go.Proofs.YthbcfamfaicneaaGreat.E.SU
open Go Go.RowKit Go.Proofs Go.Sort

/-- A row of numbers of one's own, as an array. -/
abbrev DD (b c n : Nat) (d : Array Int) : HP := own 23 1 (.slice (some ⟨b, 0, none⟩) n c) n (nums .u32 d.toList)
theorem cellD {b c n i : Nat} {d : Array Int} {Γ : List HP} (hn : d.size = n) (hi : i < n) : has (DD b c n d :: Γ) (fun m => cellAt m b i (.int .u32 d[i]!)) := by
  have h1 : has (DD b c n d :: Γ) (srcAt 1 (some ⟨b, 0, none⟩) n (nums .u32 d.toList)) := has_at (up_src _ _ _ _) 0 rfl fun _ h => own_src h
  have h2 := has_num h1 (i := i) (by simp; omega)
  have h3 : d.toList[i]'(by simp; omega) = d[i]! := by
    rw [getElem!_pos d i (by omega)]; simp
  rw [Nat.zero_add, h3] at h2
  exact h2
theorem swpD {q : IntKind} {d : Array Int} {i j : Nat} : ((nums q d.toList).set i (.int q d[j]!)).set j (.int q d[i]!) = nums q (swp d i j).toList := by
  unfold nums swp
  rw [Array.toList_setIfInBounds, Array.toList_setIfInBounds, List.map_set, List.map_set]
attribute [local irreducible] TK TL TQ TA TB Fn PV Sort.insInner Sort.heapBuild Sort.heapPop Sort.scanDown Sort.shiftDown Sort.partialIns
set_option maxRecDepth 100000 in
set_option maxHeartbeats 4000000 in
theorem ins_t (b c n a e : Nat) (d0 : Array Int) (Γ : List HP) (hsz0 : d0.size = n) (ha : a ≤ n) (he : e ≤ n) (hn : n ≤ 1000000000) :
    FnV Tryz.prog 136 [.slice (some ⟨b, 0, none⟩) n c, .int .i64 (a : Int), .int .i64 (e : Int)] (DD b c n d0 :: Γ) fun v Γ' => v = .tuple #[] ∧ Γ' = DD b c n (insertionSort ltInt d0 a e) :: Γ := by
  refine Fn.enter Tryz.func136 rfl rfl rfl fun E => ?_
  unfold insertionSort
  generalize hX : insOuter ltInt a e (a + 1) d0 = X
  refine m_run ?_
  apply TK.iter (fun j ρ' Γ' => ∃ (i : Nat) (d : Array Int), i + j = e + a + 1 ∧ a + 1 ≤ i ∧ i ≤ n + 1 ∧ d.size = n ∧ insOuter ltInt a e i d = X ∧ lk ρ' 0 = .slice (some ⟨b, 0, none⟩) n c ∧ lk ρ' 1 = .int .i64 (a : Int) ∧ lk ρ' 2 = .int .i64 (e : Int) ∧ lk ρ' 6 = .int .i64 (i : Int) ∧ Γ' = DD b c n d :: Γ) e
  · exact ⟨a + 1, d0, by omega, Nat.le_refl _, by omega, hsz0, hX, rfl, rfl, rfl, congrArg (Value.int .i64) (by rw [i64_in (by omega) (by omega)]; omega), rfl⟩
  rintro j IH ρ' _ ⟨i, d, hij, hi1, hin, hsz, hX, e0, e1, e2, e6, rfl⟩
  refine TK.know4 e0 e1 e2 e6 ?_
  by_cases hi : i < e
  · rw [Sort.insOuter, if_pos hi] at hX
    refine m_run ?_
    generalize hY : insInner ltInt a i d = Y at hX
    apply TK.iter (fun j ρ' Γ' => ∃ (d : Array Int), j ≤ i ∧ d.size = n ∧ insInner ltInt a j d = Y ∧ lk ρ' 0 = .slice (some ⟨b, 0, none⟩) n c ∧ lk ρ' 1 = .int .i64 (a : Int) ∧ lk ρ' 2 = .int .i64 (e : Int) ∧ lk ρ' 6 = .int .i64 (i : Int) ∧ lk ρ' 7 = .int .i64 (j : Int) ∧ Γ' = DD b c n d :: Γ) i
    · exact ⟨d, Nat.le_refl _, hsz, hY, rfl, rfl, rfl, rfl, rfl, rfl⟩
    clear hY hsz
    rintro q IH2 ρ2 _ ⟨d, hqi, hsz, hY, f0, f1, f2, f6, f7, rfl⟩
    refine TK.know5 f0 f1 f2 f6 f7 ?_
    have hfin : d = Y → Y.size = n ∧ insOuter ltInt a e (i + 1) Y = X := fun h => ⟨h ▸ hsz, hX⟩
    by_cases hk : a < q
    · obtain ⟨p, rfl⟩ : ∃ p, q = p + 1 := ⟨q - 1, by omega⟩
      rw [Sort.insInner] at hY
      have hc1 := cellD (b := b) (c := c) (Γ := Γ) hsz (show p + 1 < n by omega)
      have hc2 := cellD (b := b) (c := c) (Γ := Γ) hsz (show p < n by omega)
      refine m_run ?_
      refine TK.drawS mixed rfl ?_
      refine m_take (At.mk : At 0) ?_; refine m_take (At.mk : At 1) ?_; refine m_take (At.mk : At 2) ?_
      refine TA.isT 18 rfl (decide_eq_true (by omega)) ?_
      refine m_take (At.mk : At 3) ?_; refine m_take (At.mk : At 4) ?_; refine m_take (At.mk : At 5) ?_; refine m_take (At.mk : At 6) ?_; refine m_take (At.mk : At 7) ?_; refine m_take (At.mk : At 8) ?_; refine m_take (At.mk : At 9) ?_; refine m_take (At.mk : At 10) ?_
      refine TA.know (t := 26) (v := .int .i64 ((p : Nat) : Int)) (congrArg (Value.int .i64) (by rw [i64_in (by omega) (by omega)]; omega)) ?_
      refine m_take (At.mk : At 11) ?_; refine m_take (At.mk : At 12) ?_
      (apply TA.one 13; kernel_rfl; exact rfl)
      refine m_rrun ?_
      (apply TL.callV; exact rfl; exact callB_of (by kernel_rfl); exact rfl; exact fun _ h => h)
      exact less_t _ _ _
      rintro _ _ ⟨rfl, rfl⟩
      refine TL.back (by (focus ((repeat (first | assumption | exact Ent.refl _ | apply Ent.tail)); done))) ?_
      refine m_take (At.mk : At 14) ?_
      by_cases hlt : d[p + 1]! < d[p]!
      · rw [if_pos (by simp [ltInt, hlt]; omega)] at hY
        refine TA.isT 30 rfl (decide_eq_true hlt) ?_
        refine TA.done (by kernel_rfl) ?_
        refine m_run ?_
        have hcI := cellD (b := b) (c := c) (Γ := Γ) hsz (show p + 1 < n by omega)
        have hcK := cellD (b := b) (c := c) (Γ := Γ) hsz (show p < n by omega)
        refine TK.drawB mixed rfl 15 (DD b c n d :: Γ) (Γ) ?_
        refine m_bake (At.mk : At 0) ?_; refine m_bake (At.mk : At 1) ?_; refine m_bake (At.mk : At 2) ?_; refine m_bake (At.mk : At 3) ?_; refine m_bake (At.mk : At 4) ?_
        refine TB.know (t := 37) (v := .int .i64 ((p : Nat) : Int)) (congrArg (Value.int .i64) (by rw [i64_in (by omega) (by omega)]; omega)) ?_
        refine m_bake (At.mk : At 5) ?_; refine m_bake (At.mk : At 6) ?_; refine m_bake (At.mk : At 7) ?_
        refine TB.know (t := 40) (v := .int .i64 ((p : Nat) : Int)) (congrArg (Value.int .i64) (by rw [i64_in (by omega) (by omega)]; omega)) ?_
        refine m_bake (At.mk : At 8) ?_; refine m_bake (At.mk : At 9) ?_; refine m_bake (At.mk : At 10) ?_; refine m_bake (At.mk : At 11) ?_; refine m_bake (At.mk : At 12) ?_; refine m_bake (At.mk : At 13) ?_; refine m_bake (At.mk : At 14) ?_
        (apply TB.last; kernel_rfl; exact rfl)
        (apply TL.storeOwn 0 (p + 1); exact rfl; exact rfl; exact rfl; exact rfl; exact tb rfl; exact rfl; exact (Nat.zero_add _).symm; exact (by omega))
        refine TL.back (by (focus ((repeat (first | assumption | exact Ent.refl _ | apply Ent.tail)); done))) ?_
        refine m_take (At.mk : At 16) ?_
        (apply TA.one 17; kernel_rfl; exact rfl)
        (apply TL.storeOwn 0 (p); exact rfl; exact rfl; exact rfl; exact rfl; exact tb rfl; exact rfl; exact (Nat.zero_add _).symm; exact (by omega))
        refine TL.back (by (focus ((repeat (first | assumption | exact Ent.refl _ | apply Ent.tail)); done))) ?_
        refine TA.done (by kernel_rfl) ?_
        refine TK.imp (Δ := DD b c n (swp d (p + 1) (p)) :: Γ) (fun _ h => by show all (own _ _ _ _ (nums _ (swp d (p + 1) (p)).toList) :: _) _; rw [← swpD]; exact h) ?_
        have hsz : (swp d (p + 1) (p)).size = n := (size_swp _ _ _).trans hsz
        clear hcI hcK
        clear hc1 hc2
        refine m_run ?_
        exact IH2 p _ _ (by omega) ⟨_, by omega, hsz, hY, rfl, rfl, rfl, rfl, congrArg (Value.int .i64) (by rw [i64_in (by omega) (by omega)]; omega), rfl⟩
      · rw [if_neg (by simp [ltInt, hlt])] at hY
        obtain ⟨g1, g2⟩ := hfin hY
        refine TA.isF 30 rfl (decide_eq_false hlt) ?_
        refine TA.done (by kernel_rfl) ?_
        rw [hY]
        refine m_run ?_
        exact IH (j - 1) _ _ (by omega) ⟨i + 1, Y, by omega, by omega, by omega, g1, g2, rfl, rfl, rfl, congrArg (Value.int .i64) (i64_succ i (by omega)), rfl⟩
    · have hY2 : d = Y := by
        rw [← hY]
        cases q with
        | zero => rw [Sort.insInner]
        | succ p => rw [Sort.insInner, if_neg (by simp; omega)]
      obtain ⟨g1, g2⟩ := hfin hY2
      rw [hY2]
      refine m_run ?_
      refine TK.drawS mixed rfl ?_
      refine m_take (At.mk : At 0) ?_; refine m_take (At.mk : At 1) ?_; refine m_take (At.mk : At 2) ?_
      refine TA.isF 18 rfl (decide_eq_false (by omega)) ?_
      refine m_take (At.mk : At 3) ?_; refine m_take (At.mk : At 4) ?_; refine m_take (At.mk : At 5) ?_; refine m_take (At.mk : At 6) ?_; refine m_take (At.mk : At 7) ?_; refine m_take (At.mk : At 8) ?_; refine m_take (At.mk : At 9) ?_; refine m_take (At.mk : At 10) ?_; refine m_take (At.mk : At 11) ?_; refine m_take (At.mk : At 12) ?_; refine m_take (At.mk : At 13) ?_; refine m_take (At.mk : At 14) ?_
      refine TA.done (by kernel_rfl) ?_
      refine m_run ?_
      exact IH (j - 1) _ _ (by omega) ⟨i + 1, Y, by omega, by omega, by omega, g1, g2, rfl, rfl, rfl, congrArg (Value.int .i64) (i64_succ i (by omega)), rfl⟩
  rw [Sort.insOuter, if_neg hi] at hX
  rw [hX]
  refine m_run ?_
  exact TK.over0 rfl rfl ⟨_, rfl, rfl, rfl⟩

set_option maxRecDepth 100000 in
set_option maxHeartbeats 4000000 in
theorem order2_t (b c n s p q : Nat) (z : Int) (d : Array Int) (Γ : List HP) (hsz : d.size = n) (hp : p < n) (hq : q < n) :
    FnV Tryz.prog 198 [.slice (some ⟨b, 0, none⟩) n c, .int .i64 (p : Int), .int .i64 (q : Int), .pointer (some ⟨s, 0, none⟩)] (row s [.int .i64 z] 3 :: DD b c n d :: Γ) fun v Γ' => ∃ (x y : Nat) (z' : Int), (x = p ∧ y = q ∨ x = q ∧ y = p) ∧ v = .tuple #[.int .i64 (x : Int), .int .i64 (y : Int)] ∧ Γ' = row s [.int .i64 z'] 3 :: DD b c n d :: Γ := by
  refine Fn.enter Tryz.func198 rfl rfl rfl fun E => ?_
  have hc1 := has_tlc (K := row s [.int .i64 z] 3) (cellD (b := b) (c := c) (Γ := Γ) hsz hp)
  have hc2 := has_tlc (K := row s [.int .i64 z] 3) (cellD (b := b) (c := c) (Γ := Γ) hsz hq)
  refine m_run ?_
  refine TK.drawS mixed rfl ?_
  refine m_take (At.mk : At 0) ?_; refine m_take (At.mk : At 1) ?_; refine m_take (At.mk : At 2) ?_; refine m_take (At.mk : At 3) ?_; refine m_take (At.mk : At 4) ?_; refine m_take (At.mk : At 5) ?_; refine m_take (At.mk : At 6) ?_; refine m_take (At.mk : At 7) ?_
  (apply TA.one 8; kernel_rfl; exact rfl)
  (apply TL.callV; exact rfl; exact callB_of (by kernel_rfl); exact rfl; exact fun _ h => h)
  exact less_t _ _ _
  rintro _ _ ⟨rfl, rfl⟩
  refine TL.back (by (focus ((repeat (first | assumption | exact Ent.refl _ | apply Ent.tail)); done))) ?_
  refine TA.done (by kernel_rfl) ?_
  by_cases h : d[q]! < d[p]!
  · rw [decide_eq_true h]
    refine m_run ?_
    (apply TK.ret2; exact rfl; exact rfl; (exact m_val); (exact m_val))
    exact ⟨_, rfl, q, p, _, .inr ⟨rfl, rfl⟩, rfl, rfl⟩
  · rw [decide_eq_false h]
    refine m_run ?_
    (apply TK.ret2; exact rfl; exact rfl; (exact m_val); (exact m_val))
    exact ⟨_, rfl, p, q, _, .inl ⟨rfl, rfl⟩, rfl, rfl⟩
set_option maxRecDepth 100000 in
set_option maxHeartbeats 4000000 in
theorem median_t (b c n s p q r : Nat) (z : Int) (d : Array Int) (Γ : List HP) (hsz : d.size = n) (hp : p < n) (hq : q < n) (hr : r < n) :
    FnV Tryz.prog 181 [.slice (some ⟨b, 0, none⟩) n c, .int .i64 (p : Int), .int .i64 (q : Int), .int .i64 (r : Int), .pointer (some ⟨s, 0, none⟩)] (row s [.int .i64 z] 3 :: DD b c n d :: Γ) fun v Γ' => ∃ (x : Nat) (z' : Int), (x = p ∨ x = q ∨ x = r) ∧ v = .int .i64 (x : Int) ∧ Γ' = row s [.int .i64 z'] 3 :: DD b c n d :: Γ := by
  refine Fn.enter Tryz.func181 rfl rfl rfl fun E => ?_
  refine m_run ?_
  (apply TL.callV; exact rfl; exact callB_of (by kernel_rfl); exact rfl; exact fun _ h => h)
  exact order2_t b c n s p q z d Γ hsz hp hq
  rintro _ _ ⟨x1, y1, z1, h1, rfl, rfl⟩
  refine m_run ?_
  (apply TL.callV; exact rfl; exact callB_of (by kernel_rfl); exact rfl; exact fun _ h => h)
  exact order2_t b c n s y1 r z1 d Γ hsz (by omega) hr
  rintro _ _ ⟨x2, y2, z2, h2, rfl, rfl⟩
  refine m_run ?_
  (apply TL.callV; exact rfl; exact callB_of (by kernel_rfl); exact rfl; exact fun _ h => h)
  exact order2_t b c n s x1 x2 z2 d Γ hsz (by omega) (by omega)
  rintro _ _ ⟨x3, y3, z3, h3, rfl, rfl⟩
  refine m_run ?_
  (apply TK.ret1; exact rfl; exact rfl; (exact m_val))
  exact ⟨_, rfl, y3, z3, by omega, rfl, rfl⟩
set_option maxRecDepth 100000 in
set_option maxHeartbeats 4000000 in
theorem medAdj_t (b c n s p : Nat) (z : Int) (d : Array Int) (Γ : List HP) (hsz : d.size = n) (h1 : 1 ≤ p) (hp : p + 1 < n) (hn : n ≤ 1000000000) :
    FnV Tryz.prog 180 [.slice (some ⟨b, 0, none⟩) n c, .int .i64 (p : Int), .pointer (some ⟨s, 0, none⟩)] (row s [.int .i64 z] 3 :: DD b c n d :: Γ) fun v Γ' => ∃ (x : Nat) (z' : Int), (x + 1 = p ∨ x = p ∨ x = p + 1) ∧ v = .int .i64 (x : Int) ∧ Γ' = row s [.int .i64 z'] 3 :: DD b c n d :: Γ := by
  refine Fn.enter Tryz.func180 rfl rfl rfl fun E => ?_
  refine m_run ?_
  refine TL.know (t := 9) (v := .int .i64 ((p - 1 : Nat) : Int)) (congrArg (Value.int .i64) (by rw [i64_in (by omega) (by omega)]; omega)) ?_
  refine m_run ?_
  refine TL.know (t := 12) (v := .int .i64 ((p + 1 : Nat) : Int)) (congrArg (Value.int .i64) (by rw [i64_in (by omega) (by omega)]; omega)) ?_
  (apply TL.callV; exact rfl; exact callB_of (by kernel_rfl); exact rfl; exact fun _ h => h)
  exact median_t b c n s (p - 1) p (p + 1) z d Γ hsz (by omega) (by omega) hp
  rintro _ _ ⟨x, z1, h, rfl, rfl⟩
  refine m_run ?_
  (apply TK.ret1; exact rfl; exact rfl; (exact m_val))
  exact ⟨_, rfl, x, z1, by omega, rfl, rfl⟩
set_option maxRecDepth 100000 in
set_option maxHeartbeats 4000000 in
theorem pivot_t (b c n a e : Nat) (d : Array Int) (Γ : List HP) (hsz : d.size = n) (hae : a + 12 < e) (he : e ≤ n) (hn : n ≤ 1000000000) :
    FnV Tryz.prog 139 [.slice (some ⟨b, 0, none⟩) n c, .int .i64 (a : Int), .int .i64 (e : Int)] (DD b c n d :: Γ) fun v Γ' => ∃ (x : Nat) (z : Int), a ≤ x ∧ x < e ∧ (z = 0 ∨ z = 1 ∨ z = 2) ∧ v = .tuple #[.int .i64 (x : Int), .int .i64 z] ∧ Γ' = DD b c n d :: Γ := by
  refine Fn.enter Tryz.func139 rfl rfl rfl fun E => ?_
  have hq1 : (e - a) / 4 * 4 ≤ e - a := Nat.div_mul_le_self _ _
  have hq3 : 3 ≤ (e - a) / 4 := by omega
  have hqt : IntKind.i64.wrap (((e - a : Nat) : Int).tdiv 4) = (((e - a) / 4 : Nat) : Int) := by
    rw [show ((e - a : Nat) : Int).tdiv 4 = (((e - a) / 4 : Nat) : Int) from rfl, i64_in (by omega) (by omega)]
  have hq50 : 50 ≤ e - a → 12 ≤ (e - a) / 4 := by omega
  generalize (e - a) / 4 = q at *
  refine m_run ?_
  refine TL.know (t := 8) (v := .int .i64 ((e - a : Nat) : Int)) (congrArg (Value.int .i64) (by rw [i64_in (by omega) (by omega)]; omega)) ?_
  refine m_run ?_
  (apply TL.alloc; exact rfl; exact tb rfl; (exact m_lst))
  intro s
  refine m_run ?_
  refine TK.know (t := 10) (v := .int .i64 ((a + q * 1 : Nat) : Int)) (congrArg (Value.int .i64) (by rw [hqt, i64_in (x := (q : Int) * 1) (by omega) (by omega), i64_in (by omega) (by omega)]; omega)) ?_
  refine TK.know (t := 11) (v := .int .i64 ((a + q * 2 : Nat) : Int)) (congrArg (Value.int .i64) (by rw [hqt, i64_in (x := (q : Int) * 2) (by omega) (by omega), i64_in (by omega) (by omega)]; omega)) ?_
  refine TK.know (t := 12) (v := .int .i64 ((a + q * 3 : Nat) : Int)) (congrArg (Value.int .i64) (by rw [hqt, i64_in (x := (q : Int) * 3) (by omega) (by omega), i64_in (by omega) (by omega)]; omega)) ?_
  refine TK.imp (Δ := row s [.int .i64 0] 3 :: DD b c n d :: Γ) (fun _ h => h) ?_
  by_cases h50 : 50 ≤ e - a
  · have hbig := hq50 h50
    refine m_run ?_
    (apply TL.callV; exact rfl; exact callB_of (by kernel_rfl); exact rfl; exact fun _ h => h)
    exact medAdj_t b c n s (a + q * 1) 0 d Γ hsz (by omega) (by omega) hn
    rintro _ _ ⟨x1, z1, h1, rfl, rfl⟩
    refine m_run ?_
    (apply TL.callV; exact rfl; exact callB_of (by kernel_rfl); exact rfl; exact fun _ h => h)
    exact medAdj_t b c n s (a + q * 2) z1 d Γ hsz (by omega) (by omega) hn
    rintro _ _ ⟨x2, z2, h2, rfl, rfl⟩
    refine m_run ?_
    (apply TL.callV; exact rfl; exact callB_of (by kernel_rfl); exact rfl; exact fun _ h => h)
    exact medAdj_t b c n s (a + q * 3) z2 d Γ hsz (by omega) (by omega) hn
    rintro _ _ ⟨x3, z3, h3, rfl, rfl⟩
    refine m_run ?_
    (apply TL.callV; exact rfl; exact callB_of (by kernel_rfl); exact rfl; exact fun _ h => h)
    exact median_t b c n s x1 x2 x3 z3 d Γ hsz (by omega) (by omega) (by omega)
    rintro _ _ ⟨x, z, h, rfl, rfl⟩
    by_cases hz : z = 0
    · refine m_run ?_
      (apply TK.retS2; exact rfl; exact rfl; (exact m_val); (exact m_val))
      · exact ⟨_, rfl, x, 1, by omega, by omega, .inr (.inl rfl), rfl, rfl⟩
      · (repeat (first | exact List.Sublist.refl _ | apply List.Sublist.cons_cons | apply List.Sublist.cons))
    · by_cases hz2 : z = 12
      · refine m_run ?_
        (apply TK.retS2; exact rfl; exact rfl; (exact m_val); (exact m_val))
        · exact ⟨_, rfl, x, 2, by omega, by omega, .inr (.inr rfl), rfl, rfl⟩
        · (repeat (first | exact List.Sublist.refl _ | apply List.Sublist.cons_cons | apply List.Sublist.cons))
      · refine m_run ?_
        (apply TK.retS2; exact rfl; exact rfl; (exact m_val); (exact m_val))
        · exact ⟨_, rfl, x, 0, by omega, by omega, .inl rfl, rfl, rfl⟩
        · (repeat (first | exact List.Sublist.refl _ | apply List.Sublist.cons_cons | apply List.Sublist.cons))
  · refine m_run ?_
    (apply TL.callV; exact rfl; exact callB_of (by kernel_rfl); exact rfl; exact fun _ h => h)
    exact median_t b c n s (a + q * 1) (a + q * 2) (a + q * 3) 0 d Γ hsz (by omega) (by omega) (by omega)
    rintro _ _ ⟨x, z, h, rfl, rfl⟩
    by_cases hz : z = 0
    · refine m_run ?_
      (apply TK.retS2; exact rfl; exact rfl; (exact m_val); (exact m_val))
      · exact ⟨_, rfl, x, 1, by omega, by omega, .inr (.inl rfl), rfl, rfl⟩
      · (repeat (first | exact List.Sublist.refl _ | apply List.Sublist.cons_cons | apply List.Sublist.cons))
    · by_cases hz2 : z = 12
      · refine m_run ?_
        (apply TK.retS2; exact rfl; exact rfl; (exact m_val); (exact m_val))
        · exact ⟨_, rfl, x, 2, by omega, by omega, .inr (.inr rfl), rfl, rfl⟩
        · (repeat (first | exact List.Sublist.refl _ | apply List.Sublist.cons_cons | apply List.Sublist.cons))
      · refine m_run ?_
        (apply TK.retS2; exact rfl; exact rfl; (exact m_val); (exact m_val))
        · exact ⟨_, rfl, x, 0, by omega, by omega, .inl rfl, rfl, rfl⟩
        · (repeat (first | exact List.Sublist.refl _ | apply List.Sublist.cons_cons | apply List.Sublist.cons))
set_option maxRecDepth 100000 in
set_option maxHeartbeats 4000000 in
theorem rev_t (b c n a e : Nat) (d0 : Array Int) (Γ : List HP) (hsz0 : d0.size = n) (hae : a < e) (he : e ≤ n) (hn : n ≤ 1000000000) :
    FnV Tryz.prog 140 [.slice (some ⟨b, 0, none⟩) n c, .int .i64 (a : Int), .int .i64 (e : Int)] (DD b c n d0 :: Γ) fun v Γ' => v = .tuple #[] ∧ Γ' = DD b c n (reverseRange d0 a e) :: Γ := by
  refine Fn.enter Tryz.func140 rfl rfl rfl fun E => ?_
  unfold reverseRange
  generalize hX : reverseLoop a (e - 1) d0 = X
  refine m_run ?_
  apply TK.iter (fun m ρ' Γ' => ∃ (i j : Nat) (d : Array Int), j + 1 - i ≤ m ∧ i ≤ n ∧ j < n ∧ d.size = n ∧ reverseLoop i j d = X ∧ lk ρ' 0 = .slice (some ⟨b, 0, none⟩) n c ∧ lk ρ' 6 = .int .i64 (i : Int) ∧ lk ρ' 7 = .int .i64 (j : Int) ∧ Γ' = DD b c n d :: Γ) n
  · exact ⟨a, e - 1, d0, by omega, by omega, by omega, hsz0, hX, rfl, rfl, congrArg (Value.int .i64) (by rw [i64_in (by omega) (by omega)]; omega), rfl⟩
  rintro m IH ρ' _ ⟨i, j, d, hm, hi, hj, hsz, hX, e0, e6, e7, rfl⟩
  refine TK.know3 e0 e6 e7 ?_
  by_cases hij : i < j
  · rw [Sort.reverseLoop, if_pos hij] at hX
    refine m_run ?_
    have hcI := cellD (b := b) (c := c) (Γ := Γ) hsz (show i < n by omega)
    have hcK := cellD (b := b) (c := c) (Γ := Γ) hsz (show j < n by omega)
    refine TK.drawB mixed rfl 13 (DD b c n d :: Γ) (Γ) ?_
    refine m_bake (At.mk : At 0) ?_; refine m_bake (At.mk : At 1) ?_; refine m_bake (At.mk : At 2) ?_; refine m_bake (At.mk : At 3) ?_; refine m_bake (At.mk : At 4) ?_; refine m_bake (At.mk : At 5) ?_; refine m_bake (At.mk : At 6) ?_; refine m_bake (At.mk : At 7) ?_; refine m_bake (At.mk : At 8) ?_; refine m_bake (At.mk : At 9) ?_; refine m_bake (At.mk : At 10) ?_; refine m_bake (At.mk : At 11) ?_; refine m_bake (At.mk : At 12) ?_
    (apply TB.last; kernel_rfl; exact rfl)
    (apply TL.storeOwn 0 (i); exact rfl; exact rfl; exact rfl; exact rfl; exact tb rfl; exact rfl; exact (Nat.zero_add _).symm; exact (by omega))
    refine TL.back (by (focus ((repeat (first | assumption | exact Ent.refl _ | apply Ent.tail)); done))) ?_
    refine m_take (At.mk : At 14) ?_
    (apply TA.one 15; kernel_rfl; exact rfl)
    (apply TL.storeOwn 0 (j); exact rfl; exact rfl; exact rfl; exact rfl; exact tb rfl; exact rfl; exact (Nat.zero_add _).symm; exact (by omega))
    refine TL.back (by (focus ((repeat (first | assumption | exact Ent.refl _ | apply Ent.tail)); done))) ?_
    refine TA.done (by kernel_rfl) ?_
    refine TK.imp (Δ := DD b c n (swp d (i) (j)) :: Γ) (fun _ h => by show all (own _ _ _ _ (nums _ (swp d (i) (j)).toList) :: _) _; rw [← swpD]; exact h) ?_
    have hsz : (swp d (i) (j)).size = n := (size_swp _ _ _).trans hsz
    clear hcI hcK
    refine m_run ?_
    exact IH (m - 1) _ _ (by omega) ⟨i + 1, j - 1, _, by omega, by omega, by omega, hsz, hX, rfl, congrArg (Value.int .i64) (by rw [i64_in (by omega) (by omega)]; omega), congrArg (Value.int .i64) (by rw [i64_in (by omega) (by omega)]; omega), rfl⟩
  rw [Sort.reverseLoop, if_neg hij] at hX
  rw [hX]
  refine m_run ?_
  exact TK.over0 rfl rfl ⟨_, rfl, rfl, rfl⟩

set_option maxRecDepth 100000 in
set_option maxHeartbeats 4000000 in
theorem sift_t (b c n lo hi first : Nat) (d0 : Array Int) (Γ : List HP) (hsz0 : d0.size = n) (hlo : lo ≤ hi) (hf : first + hi ≤ n) (hn : n ≤ 1000000000) :
    FnV Tryz.prog 177 [.slice (some ⟨b, 0, none⟩) n c, .int .i64 (lo : Int), .int .i64 (hi : Int), .int .i64 (first : Int)] (DD b c n d0 :: Γ) fun v Γ' => v = .tuple #[] ∧ Γ' = DD b c n (siftDown ltInt hi first lo d0) :: Γ := by
  refine Fn.enter Tryz.func177 rfl rfl rfl fun E => ?_
  generalize hX : siftDown ltInt hi first lo d0 = X
  refine m_run ?_
  apply TK.iter (fun m ρ' Γ' => ∃ (root : Nat) (d : Array Int), hi - root ≤ m ∧ root ≤ hi ∧ d.size = n ∧ siftDown ltInt hi first root d = X ∧ lk ρ' 0 = .slice (some ⟨b, 0, none⟩) n c ∧ lk ρ' 2 = .int .i64 (hi : Int) ∧ lk ρ' 3 = .int .i64 (first : Int) ∧ lk ρ' 8 = .int .i64 (root : Int) ∧ Γ' = DD b c n d :: Γ) hi
  · exact ⟨lo, d0, by omega, hlo, hsz0, hX, rfl, rfl, rfl, rfl, rfl⟩
  rintro m IH ρ' _ ⟨root, d, hm, hrt, hsz, hX, e0, e2, e3, e8, rfl⟩
  refine TK.know4 e0 e2 e3 e8 ?_
  rw [Sort.siftDown] at hX
  by_cases hch : 2 * root + 1 ≥ hi
  · rw [dif_pos hch] at hX
    rw [hX]
    have hw : IntKind.i64.wrap (IntKind.i64.wrap (2 * (root : Int)) + 1) = ((2 * root + 1 : Nat) : Int) := by rw [i64_in (x := 2 * (root : Int)) (by omega) (by omega), i64_in (by omega) (by omega)]; omega
    refine m_run ?_
    refine TK.know (t := 16) (v := .bool true) (congrArg Value.bool (by rw [hw]; exact decide_eq_true (by omega))) ?_
    refine m_run ?_
    exact TK.over0 rfl rfl ⟨_, rfl, rfl, rfl⟩
  · rw [dif_neg hch] at hX
    have hw : IntKind.i64.wrap (IntKind.i64.wrap (2 * (root : Int)) + 1) = ((2 * root + 1 : Nat) : Int) := by rw [i64_in (x := 2 * (root : Int)) (by omega) (by omega), i64_in (by omega) (by omega)]; omega
    refine m_run ?_
    refine TK.know (t := 16) (v := .bool false) (congrArg Value.bool (by rw [hw]; exact decide_eq_false (by omega))) ?_
    refine TK.know (t := 9) (v := .int .i64 ((2 * root + 1 : Nat) : Int)) (congrArg (Value.int .i64) hw) ?_
    refine m_run ?_
    by_cases hr : 2 * root + 1 + 1 < hi
    · have hc1 := cellD (b := b) (c := c) (Γ := Γ) hsz (show first + (2 * root + 1) < n by omega)
      have hc2 := cellD (b := b) (c := c) (Γ := Γ) hsz (show first + (2 * root + 1) + 1 < n by omega)
      refine TK.drawS mixed rfl ?_
      refine m_take (At.mk : At 0) ?_; refine m_take (At.mk : At 1) ?_
      refine TA.know (t := 18) (v := .int .i64 ((2 * root + 1 + 1 : Nat) : Int)) (congrArg (Value.int .i64) (by rw [i64_in (by omega) (by omega)]; omega)) ?_
      refine m_take (At.mk : At 2) ?_; refine m_take (At.mk : At 3) ?_
      refine TA.isT 20 rfl (decide_eq_true (by omega)) ?_
      refine m_take (At.mk : At 4) ?_; refine m_take (At.mk : At 5) ?_; refine m_take (At.mk : At 6) ?_; refine m_take (At.mk : At 7) ?_; refine m_take (At.mk : At 8) ?_
      refine TA.know (t := 25) (v := .int .i64 ((first + (2 * root + 1) : Nat) : Int)) (congrArg (Value.int .i64) (by rw [i64_in (by omega) (by omega)]; omega)) ?_
      refine m_take (At.mk : At 9) ?_; refine m_take (At.mk : At 10) ?_; refine m_take (At.mk : At 11) ?_; refine m_take (At.mk : At 12) ?_; refine m_take (At.mk : At 13) ?_; refine m_take (At.mk : At 14) ?_
      refine TA.know (t := 31) (v := .int .i64 ((first + (2 * root + 1) : Nat) : Int)) (congrArg (Value.int .i64) (by rw [i64_in (by omega) (by omega)]; omega)) ?_
      refine m_take (At.mk : At 15) ?_
      refine TA.know (t := 32) (v := .int .i64 ((first + (2 * root + 1) + 1 : Nat) : Int)) (congrArg (Value.int .i64) (by rw [i64_in (by omega) (by omega)]; omega)) ?_
      refine m_take (At.mk : At 16) ?_; refine m_take (At.mk : At 17) ?_
      (apply TA.one 18; kernel_rfl; exact rfl)
      refine m_rrun ?_
      (apply TL.callV; exact rfl; exact callB_of (by kernel_rfl); exact rfl; exact fun _ h => h)
      exact less_t _ _ _
      rintro _ _ ⟨rfl, rfl⟩
      refine TL.back (by (focus ((repeat (first | assumption | exact Ent.refl _ | apply Ent.tail)); done))) ?_
      refine m_take (At.mk : At 19) ?_
      by_cases h1 : d[first + (2 * root + 1)]! < d[first + (2 * root + 1) + 1]!
      · rw [if_pos (by simp [ltInt, h1]; omega)] at hX
        refine TA.isT 36 rfl (decide_eq_true h1) ?_
        refine TA.done (by kernel_rfl) ?_
        clear hc1 hc2
        refine m_run ?_
        refine TK.know (t := 9) (v := .int .i64 ((2 * root + 2 : Nat) : Int)) (congrArg (Value.int .i64) (by rw [i64_in (by omega) (by omega)]; omega)) ?_
        have hc3 := cellD (b := b) (c := c) (Γ := Γ) hsz (show first + root < n by omega)
        have hc4 := cellD (b := b) (c := c) (Γ := Γ) hsz (show first + (2 * root + 2) < n by omega)
        refine m_run ?_
        refine TK.drawS mixed rfl ?_
        refine m_take (At.mk : At 0) ?_; refine m_take (At.mk : At 1) ?_; refine m_take (At.mk : At 2) ?_; refine m_take (At.mk : At 3) ?_
        refine TA.know (t := 42) (v := .int .i64 ((first + root : Nat) : Int)) (congrArg (Value.int .i64) (by rw [i64_in (by omega) (by omega)]; omega)) ?_
        refine m_take (At.mk : At 4) ?_; refine m_take (At.mk : At 5) ?_; refine m_take (At.mk : At 6) ?_; refine m_take (At.mk : At 7) ?_; refine m_take (At.mk : At 8) ?_; refine m_take (At.mk : At 9) ?_
        refine TA.know (t := 48) (v := .int .i64 ((first + (2 * root + 2) : Nat) : Int)) (congrArg (Value.int .i64) (by rw [i64_in (by omega) (by omega)]; omega)) ?_
        refine m_take (At.mk : At 10) ?_; refine m_take (At.mk : At 11) ?_
        (apply TA.one 12; kernel_rfl; exact rfl)
        (apply TL.callV; exact rfl; exact callB_of (by kernel_rfl); exact rfl; exact fun _ h => h)
        exact less_t _ _ _
        rintro _ _ ⟨rfl, rfl⟩
        refine TL.back (by (focus ((repeat (first | assumption | exact Ent.refl _ | apply Ent.tail)); done))) ?_
        refine m_take (At.mk : At 13) ?_
        by_cases h2 : d[first + root]! < d[first + (2 * root + 2)]!
        · refine TA.isF 52 rfl (not_f (decide_eq_true h2)) ?_
          refine TA.done (by kernel_rfl) ?_
          rw [if_neg (by simp [ltInt, h2])] at hX
          rw [dif_pos (by omega)] at hX
          clear hc3 hc4
          refine m_run ?_
          have hcI := cellD (b := b) (c := c) (Γ := Γ) hsz (show first + root < n by omega)
          have hcK := cellD (b := b) (c := c) (Γ := Γ) hsz (show first + (2 * root + 2) < n by omega)
          refine TK.drawB mixed rfl 21 (DD b c n d :: Γ) (Γ) ?_
          refine m_bake (At.mk : At 0) ?_; refine m_bake (At.mk : At 1) ?_; refine m_bake (At.mk : At 2) ?_; refine m_bake (At.mk : At 3) ?_
          refine TB.know (t := 56) (v := .int .i64 ((first + root : Nat) : Int)) (congrArg (Value.int .i64) (by rw [i64_in (by omega) (by omega)]; omega)) ?_
          refine m_bake (At.mk : At 4) ?_; refine m_bake (At.mk : At 5) ?_; refine m_bake (At.mk : At 6) ?_; refine m_bake (At.mk : At 7) ?_
          refine TB.know (t := 60) (v := .int .i64 ((first + (2 * root + 2) : Nat) : Int)) (congrArg (Value.int .i64) (by rw [i64_in (by omega) (by omega)]; omega)) ?_
          refine m_bake (At.mk : At 8) ?_; refine m_bake (At.mk : At 9) ?_; refine m_bake (At.mk : At 10) ?_; refine m_bake (At.mk : At 11) ?_
          refine TB.know (t := 64) (v := .int .i64 ((first + (2 * root + 2) : Nat) : Int)) (congrArg (Value.int .i64) (by rw [i64_in (by omega) (by omega)]; omega)) ?_
          refine m_bake (At.mk : At 12) ?_; refine m_bake (At.mk : At 13) ?_; refine m_bake (At.mk : At 14) ?_; refine m_bake (At.mk : At 15) ?_; refine m_bake (At.mk : At 16) ?_; refine m_bake (At.mk : At 17) ?_
          refine TB.know (t := 70) (v := .int .i64 ((first + root : Nat) : Int)) (congrArg (Value.int .i64) (by rw [i64_in (by omega) (by omega)]; omega)) ?_
          refine m_bake (At.mk : At 18) ?_; refine m_bake (At.mk : At 19) ?_; refine m_bake (At.mk : At 20) ?_
          (apply TB.last; kernel_rfl; exact rfl)
          (apply TL.storeOwn 0 (first + root); exact rfl; exact rfl; exact rfl; exact rfl; exact tb rfl; exact rfl; exact (Nat.zero_add _).symm; exact (by omega))
          refine TL.back (by (focus ((repeat (first | assumption | exact Ent.refl _ | apply Ent.tail)); done))) ?_
          refine m_take (At.mk : At 22) ?_
          (apply TA.one 23; kernel_rfl; exact rfl)
          (apply TL.storeOwn 0 (first + (2 * root + 2)); exact rfl; exact rfl; exact rfl; exact rfl; exact tb rfl; exact rfl; exact (Nat.zero_add _).symm; exact (by omega))
          refine TL.back (by (focus ((repeat (first | assumption | exact Ent.refl _ | apply Ent.tail)); done))) ?_
          refine TA.done (by kernel_rfl) ?_
          refine TK.imp (Δ := DD b c n (swp d (first + root) (first + (2 * root + 2))) :: Γ) (fun _ h => by show all (own _ _ _ _ (nums _ (swp d (first + root) (first + (2 * root + 2))).toList) :: _) _; rw [← swpD]; exact h) ?_
          have hsz : (swp d (first + root) (first + (2 * root + 2))).size = n := (size_swp _ _ _).trans hsz
          clear hcI hcK
          refine m_run ?_
          exact IH (m - 1) _ _ (by omega) ⟨2 * root + 2, _, by omega, by omega, hsz, hX, rfl, rfl, rfl, rfl, rfl⟩
        · refine TA.isT 52 rfl (not_t (decide_eq_false h2)) ?_
          refine TA.done (by kernel_rfl) ?_
          rw [if_pos (by simp [ltInt, h2])] at hX
          rw [hX]
          refine m_run ?_
          (apply TK.ret0; exact rfl; exact rfl)
          exact ⟨_, rfl, rfl, rfl⟩
      · rw [if_neg (by simp [ltInt, h1])] at hX
        refine TA.isF 36 rfl (decide_eq_false h1) ?_
        refine TA.done (by kernel_rfl) ?_
        clear hc1 hc2
        have hc3 := cellD (b := b) (c := c) (Γ := Γ) hsz (show first + root < n by omega)
        have hc4 := cellD (b := b) (c := c) (Γ := Γ) hsz (show first + (2 * root + 1) < n by omega)
        refine m_run ?_
        refine TK.drawS mixed rfl ?_
        refine m_take (At.mk : At 0) ?_; refine m_take (At.mk : At 1) ?_; refine m_take (At.mk : At 2) ?_; refine m_take (At.mk : At 3) ?_
        refine TA.know (t := 42) (v := .int .i64 ((first + root : Nat) : Int)) (congrArg (Value.int .i64) (by rw [i64_in (by omega) (by omega)]; omega)) ?_
        refine m_take (At.mk : At 4) ?_; refine m_take (At.mk : At 5) ?_; refine m_take (At.mk : At 6) ?_; refine m_take (At.mk : At 7) ?_; refine m_take (At.mk : At 8) ?_; refine m_take (At.mk : At 9) ?_
        refine TA.know (t := 48) (v := .int .i64 ((first + (2 * root + 1) : Nat) : Int)) (congrArg (Value.int .i64) (by rw [i64_in (by omega) (by omega)]; omega)) ?_
        refine m_take (At.mk : At 10) ?_; refine m_take (At.mk : At 11) ?_
        (apply TA.one 12; kernel_rfl; exact rfl)
        (apply TL.callV; exact rfl; exact callB_of (by kernel_rfl); exact rfl; exact fun _ h => h)
        exact less_t _ _ _
        rintro _ _ ⟨rfl, rfl⟩
        refine TL.back (by (focus ((repeat (first | assumption | exact Ent.refl _ | apply Ent.tail)); done))) ?_
        refine m_take (At.mk : At 13) ?_
        by_cases h2 : d[first + root]! < d[first + (2 * root + 1)]!
        · refine TA.isF 52 rfl (not_f (decide_eq_true h2)) ?_
          refine TA.done (by kernel_rfl) ?_
          rw [if_neg (by simp [ltInt, h2])] at hX
          skip
          clear hc3 hc4
          refine m_run ?_
          have hcI := cellD (b := b) (c := c) (Γ := Γ) hsz (show first + root < n by omega)
          have hcK := cellD (b := b) (c := c) (Γ := Γ) hsz (show first + (2 * root + 1) < n by omega)
          refine TK.drawB mixed rfl 21 (DD b c n d :: Γ) (Γ) ?_
          refine m_bake (At.mk : At 0) ?_; refine m_bake (At.mk : At 1) ?_; refine m_bake (At.mk : At 2) ?_; refine m_bake (At.mk : At 3) ?_
          refine TB.know (t := 56) (v := .int .i64 ((first + root : Nat) : Int)) (congrArg (Value.int .i64) (by rw [i64_in (by omega) (by omega)]; omega)) ?_
          refine m_bake (At.mk : At 4) ?_; refine m_bake (At.mk : At 5) ?_; refine m_bake (At.mk : At 6) ?_; refine m_bake (At.mk : At 7) ?_
          refine TB.know (t := 60) (v := .int .i64 ((first + (2 * root + 1) : Nat) : Int)) (congrArg (Value.int .i64) (by rw [i64_in (by omega) (by omega)]; omega)) ?_
          refine m_bake (At.mk : At 8) ?_; refine m_bake (At.mk : At 9) ?_; refine m_bake (At.mk : At 10) ?_; refine m_bake (At.mk : At 11) ?_
          refine TB.know (t := 64) (v := .int .i64 ((first + (2 * root + 1) : Nat) : Int)) (congrArg (Value.int .i64) (by rw [i64_in (by omega) (by omega)]; omega)) ?_
          refine m_bake (At.mk : At 12) ?_; refine m_bake (At.mk : At 13) ?_; refine m_bake (At.mk : At 14) ?_; refine m_bake (At.mk : At 15) ?_; refine m_bake (At.mk : At 16) ?_; refine m_bake (At.mk : At 17) ?_
          refine TB.know (t := 70) (v := .int .i64 ((first + root : Nat) : Int)) (congrArg (Value.int .i64) (by rw [i64_in (by omega) (by omega)]; omega)) ?_
          refine m_bake (At.mk : At 18) ?_; refine m_bake (At.mk : At 19) ?_; refine m_bake (At.mk : At 20) ?_
          (apply TB.last; kernel_rfl; exact rfl)
          (apply TL.storeOwn 0 (first + root); exact rfl; exact rfl; exact rfl; exact rfl; exact tb rfl; exact rfl; exact (Nat.zero_add _).symm; exact (by omega))
          refine TL.back (by (focus ((repeat (first | assumption | exact Ent.refl _ | apply Ent.tail)); done))) ?_
          refine m_take (At.mk : At 22) ?_
          (apply TA.one 23; kernel_rfl; exact rfl)
          (apply TL.storeOwn 0 (first + (2 * root + 1)); exact rfl; exact rfl; exact rfl; exact rfl; exact tb rfl; exact rfl; exact (Nat.zero_add _).symm; exact (by omega))
          refine TL.back (by (focus ((repeat (first | assumption | exact Ent.refl _ | apply Ent.tail)); done))) ?_
          refine TA.done (by kernel_rfl) ?_
          refine TK.imp (Δ := DD b c n (swp d (first + root) (first + (2 * root + 1))) :: Γ) (fun _ h => by show all (own _ _ _ _ (nums _ (swp d (first + root) (first + (2 * root + 1))).toList) :: _) _; rw [← swpD]; exact h) ?_
          have hsz : (swp d (first + root) (first + (2 * root + 1))).size = n := (size_swp _ _ _).trans hsz
          clear hcI hcK
          refine m_run ?_
          exact IH (m - 1) _ _ (by omega) ⟨2 * root + 1, _, by omega, by omega, hsz, hX, rfl, rfl, rfl, rfl, rfl⟩
        · refine TA.isT 52 rfl (not_t (decide_eq_false h2)) ?_
          refine TA.done (by kernel_rfl) ?_
          rw [if_pos (by simp [ltInt, h2])] at hX
          rw [hX]
          refine m_run ?_
          (apply TK.ret0; exact rfl; exact rfl)
          exact ⟨_, rfl, rfl, rfl⟩
    · rw [if_neg (by simp; omega)] at hX
      refine TK.drawS mixed rfl ?_
      refine m_take (At.mk : At 0) ?_; refine m_take (At.mk : At 1) ?_
      refine TA.know (t := 18) (v := .int .i64 ((2 * root + 1 + 1 : Nat) : Int)) (congrArg (Value.int .i64) (by rw [i64_in (by omega) (by omega)]; omega)) ?_
      refine m_take (At.mk : At 2) ?_; refine m_take (At.mk : At 3) ?_
      refine TA.isF 20 rfl (decide_eq_false (by omega)) ?_
      refine m_take (At.mk : At 4) ?_; refine m_take (At.mk : At 5) ?_; refine m_take (At.mk : At 6) ?_; refine m_take (At.mk : At 7) ?_; refine m_take (At.mk : At 8) ?_; refine m_take (At.mk : At 9) ?_; refine m_take (At.mk : At 10) ?_; refine m_take (At.mk : At 11) ?_; refine m_take (At.mk : At 12) ?_; refine m_take (At.mk : At 13) ?_; refine m_take (At.mk : At 14) ?_; refine m_take (At.mk : At 15) ?_; refine m_take (At.mk : At 16) ?_; refine m_take (At.mk : At 17) ?_; refine m_take (At.mk : At 18) ?_; refine m_take (At.mk : At 19) ?_
      refine TA.done (by kernel_rfl) ?_
      have hc3 := cellD (b := b) (c := c) (Γ := Γ) hsz (show first + root < n by omega)
      have hc4 := cellD (b := b) (c := c) (Γ := Γ) hsz (show first + (2 * root + 1) < n by omega)
      refine m_run ?_
      refine TK.drawS mixed rfl ?_
      refine m_take (At.mk : At 0) ?_; refine m_take (At.mk : At 1) ?_; refine m_take (At.mk : At 2) ?_; refine m_take (At.mk : At 3) ?_
      refine TA.know (t := 42) (v := .int .i64 ((first + root : Nat) : Int)) (congrArg (Value.int .i64) (by rw [i64_in (by omega) (by omega)]; omega)) ?_
      refine m_take (At.mk : At 4) ?_; refine m_take (At.mk : At 5) ?_; refine m_take (At.mk : At 6) ?_; refine m_take (At.mk : At 7) ?_; refine m_take (At.mk : At 8) ?_; refine m_take (At.mk : At 9) ?_
      refine TA.know (t := 48) (v := .int .i64 ((first + (2 * root + 1) : Nat) : Int)) (congrArg (Value.int .i64) (by rw [i64_in (by omega) (by omega)]; omega)) ?_
      refine m_take (At.mk : At 10) ?_; refine m_take (At.mk : At 11) ?_
      (apply TA.one 12; kernel_rfl; exact rfl)
      (apply TL.callV; exact rfl; exact callB_of (by kernel_rfl); exact rfl; exact fun _ h => h)
      exact less_t _ _ _
      rintro _ _ ⟨rfl, rfl⟩
      refine TL.back (by (focus ((repeat (first | assumption | exact Ent.refl _ | apply Ent.tail)); done))) ?_
      refine m_take (At.mk : At 13) ?_
      by_cases h2 : d[first + root]! < d[first + (2 * root + 1)]!
      · refine TA.isF 52 rfl (not_f (decide_eq_true h2)) ?_
        refine TA.done (by kernel_rfl) ?_
        rw [if_neg (by simp [ltInt, h2])] at hX
        skip
        clear hc3 hc4
        refine m_run ?_
        have hcI := cellD (b := b) (c := c) (Γ := Γ) hsz (show first + root < n by omega)
        have hcK := cellD (b := b) (c := c) (Γ := Γ) hsz (show first + (2 * root + 1) < n by omega)
        refine TK.drawB mixed rfl 21 (DD b c n d :: Γ) (Γ) ?_
        refine m_bake (At.mk : At 0) ?_; refine m_bake (At.mk : At 1) ?_; refine m_bake (At.mk : At 2) ?_; refine m_bake (At.mk : At 3) ?_
        refine TB.know (t := 56) (v := .int .i64 ((first + root : Nat) : Int)) (congrArg (Value.int .i64) (by rw [i64_in (by omega) (by omega)]; omega)) ?_
        refine m_bake (At.mk : At 4) ?_; refine m_bake (At.mk : At 5) ?_; refine m_bake (At.mk : At 6) ?_; refine m_bake (At.mk : At 7) ?_
        refine TB.know (t := 60) (v := .int .i64 ((first + (2 * root + 1) : Nat) : Int)) (congrArg (Value.int .i64) (by rw [i64_in (by omega) (by omega)]; omega)) ?_
        refine m_bake (At.mk : At 8) ?_; refine m_bake (At.mk : At 9) ?_; refine m_bake (At.mk : At 10) ?_; refine m_bake (At.mk : At 11) ?_
        refine TB.know (t := 64) (v := .int .i64 ((first + (2 * root + 1) : Nat) : Int)) (congrArg (Value.int .i64) (by rw [i64_in (by omega) (by omega)]; omega)) ?_
        refine m_bake (At.mk : At 12) ?_; refine m_bake (At.mk : At 13) ?_; refine m_bake (At.mk : At 14) ?_; refine m_bake (At.mk : At 15) ?_; refine m_bake (At.mk : At 16) ?_; refine m_bake (At.mk : At 17) ?_
        refine TB.know (t := 70) (v := .int .i64 ((first + root : Nat) : Int)) (congrArg (Value.int .i64) (by rw [i64_in (by omega) (by omega)]; omega)) ?_
        refine m_bake (At.mk : At 18) ?_; refine m_bake (At.mk : At 19) ?_; refine m_bake (At.mk : At 20) ?_
        (apply TB.last; kernel_rfl; exact rfl)
        (apply TL.storeOwn 0 (first + root); exact rfl; exact rfl; exact rfl; exact rfl; exact tb rfl; exact rfl; exact (Nat.zero_add _).symm; exact (by omega))
        refine TL.back (by (focus ((repeat (first | assumption | exact Ent.refl _ | apply Ent.tail)); done))) ?_
        refine m_take (At.mk : At 22) ?_
        (apply TA.one 23; kernel_rfl; exact rfl)
        (apply TL.storeOwn 0 (first + (2 * root + 1)); exact rfl; exact rfl; exact rfl; exact rfl; exact tb rfl; exact rfl; exact (Nat.zero_add _).symm; exact (by omega))
        refine TL.back (by (focus ((repeat (first | assumption | exact Ent.refl _ | apply Ent.tail)); done))) ?_
        refine TA.done (by kernel_rfl) ?_
        refine TK.imp (Δ := DD b c n (swp d (first + root) (first + (2 * root + 1))) :: Γ) (fun _ h => by show all (own _ _ _ _ (nums _ (swp d (first + root) (first + (2 * root + 1))).toList) :: _) _; rw [← swpD]; exact h) ?_
        have hsz : (swp d (first + root) (first + (2 * root + 1))).size = n := (size_swp _ _ _).trans hsz
        clear hcI hcK
        refine m_run ?_
        exact IH (m - 1) _ _ (by omega) ⟨2 * root + 1, _, by omega, by omega, hsz, hX, rfl, rfl, rfl, rfl, rfl⟩
      · refine TA.isT 52 rfl (not_t (decide_eq_false h2)) ?_
        refine TA.done (by kernel_rfl) ?_
        rw [if_pos (by simp [ltInt, h2])] at hX
        rw [hX]
        refine m_run ?_
        (apply TK.ret0; exact rfl; exact rfl)
        exact ⟨_, rfl, rfl, rfl⟩

theorem sift_size (hi first root : Nat) (d : Array Int) (h : first + hi ≤ d.size) : (siftDown ltInt hi first root d).size = d.size := by
  have key : ∀ (N root : Nat) (d : Array Int), hi - root ≤ N → (siftDown ltInt hi first root d).size = d.size := by
    intro N
    induction N with
    | zero => intro root d hN; rw [Sort.siftDown, dif_pos (by omega)]
    | succ N ih =>
      intro root d hN
      rw [Sort.siftDown]
      split
      · rfl
      · split
        · split
          · rfl
          · split
            · rw [ih _ _ (by omega), size_swp]
            · rfl
        · split
          · rfl
          · rw [ih _ _ (by omega), size_swp]
  exact key _ root d (Nat.le_refl _)
set_option maxRecDepth 100000 in
set_option maxHeartbeats 4000000 in
theorem heap_t (b c n a e : Nat) (d0 : Array Int) (Γ : List HP) (hsz0 : d0.size = n) (hae : a < e) (he : e ≤ n) (hn : n ≤ 1000000000) :
    FnV Tryz.prog 137 [.slice (some ⟨b, 0, none⟩) n c, .int .i64 (a : Int), .int .i64 (e : Int)] (DD b c n d0 :: Γ) fun v Γ' => v = .tuple #[] ∧ Γ' = DD b c n (heapSort ltInt d0 a e) :: Γ := by
  refine Fn.enter Tryz.func137 rfl rfl rfl fun E => ?_
  unfold heapSort
  generalize hB : heapBuild ltInt (e - a) a ((e - a - 1) / 2 + 1) d0 = B
  generalize hX : heapPop ltInt a (e - a) B = X
  have hq : IntKind.i64.wrap ((IntKind.i64.wrap (((e - a : Nat) : Int) - 1)).tdiv 2) = (((e - a - 1) / 2 : Nat) : Int) := by
    rw [i64_in (x := ((e - a : Nat) : Int) - 1) (by omega) (by omega), show ((e - a : Nat) : Int) - 1 = ((e - a - 1 : Nat) : Int) by omega, show ((e - a - 1 : Nat) : Int).tdiv 2 = (((e - a - 1) / 2 : Nat) : Int) from rfl, i64_in (by omega) (by omega)]
  refine m_run ?_
  refine TK.know (t := 8) (v := .int .i64 ((e - a : Nat) : Int)) (congrArg (Value.int .i64) (by rw [i64_in (by omega) (by omega)]; omega)) ?_
  refine m_run ?_
  apply TK.iter (fun m ρ' Γ' => ∃ (d : Array Int), m ≤ (e - a - 1) / 2 + 1 ∧ d.size = n ∧ heapBuild ltInt (e - a) a m d = B ∧ lk ρ' 0 = .slice (some ⟨b, 0, none⟩) n c ∧ lk ρ' 6 = .int .i64 (a : Int) ∧ lk ρ' 7 = .int .i64 0 ∧ lk ρ' 8 = .int .i64 ((e - a : Nat) : Int) ∧ lk ρ' 9 = .int .i64 ((m : Int) - 1) ∧ Γ' = DD b c n d :: Γ) ((e - a - 1) / 2 + 1)
  · exact ⟨d0, Nat.le_refl _, hsz0, hB, rfl, rfl, rfl, rfl, congrArg (Value.int .i64) (by
      rw [show IntKind.i64.wrap ((e : Int) - (a : Int)) = ((e - a : Nat) : Int) by rw [i64_in (by omega) (by omega)]; omega, hq]; omega), rfl⟩
  clear hB
  rintro m IH ρ' _ ⟨d, hm, hsz, hB, e0, e6, e7, e8, e9, rfl⟩
  refine TK.know5 e0 e6 e7 e8 e9 ?_
  cases m with
  | succ m =>
    rw [Sort.heapBuild] at hB
    refine TK.know (t := 9) (v := .int .i64 (m : Int)) (congrArg (Value.int .i64) (by omega)) ?_
    refine m_run ?_
    (apply TL.callV; exact rfl; exact callB_of (by kernel_rfl); exact rfl; exact fun _ h => h)
    exact sift_t b c n m (e - a) a d Γ hsz (by omega) (by omega) hn
    rintro _ _ ⟨rfl, rfl⟩
    have hsz : (siftDown ltInt (e - a) a m d).size = n := (sift_size _ _ _ _ (by omega)).trans hsz
    refine m_run ?_
    exact IH m _ _ (by omega) ⟨_, by omega, hsz, hB, rfl, rfl, rfl, rfl, congrArg (Value.int .i64) (by rw [i64_in (by omega) (by omega)]), rfl⟩
  | zero =>
    rw [Sort.heapBuild] at hB
    rw [hB]
    refine TK.know (t := 9) (v := .int .i64 (-1)) (congrArg (Value.int .i64) (by omega)) ?_
    have hszB : B.size = n := hB ▸ hsz
    clear IH hB hsz
    refine m_run ?_
    apply TK.iter (fun m ρ' Γ' => ∃ (d : Array Int), m ≤ e - a ∧ d.size = n ∧ heapPop ltInt a m d = X ∧ lk ρ' 0 = .slice (some ⟨b, 0, none⟩) n c ∧ lk ρ' 6 = .int .i64 (a : Int) ∧ lk ρ' 7 = .int .i64 0 ∧ lk ρ' 10 = .int .i64 ((m : Int) - 1) ∧ Γ' = DD b c n d :: Γ) (e - a)
    · exact ⟨B, Nat.le_refl _, hszB, hX, rfl, rfl, rfl, congrArg (Value.int .i64) (by rw [i64_in (by omega) (by omega)]), rfl⟩
    clear hX
    rintro m IH ρ' _ ⟨d, hm, hsz, hX, e0, e6, e7, e10, rfl⟩
    refine TK.know4 e0 e6 e7 e10 ?_
    cases m with
    | succ m =>
      rw [Sort.heapPop] at hX
      refine TK.know (t := 10) (v := .int .i64 (m : Int)) (congrArg (Value.int .i64) (by omega)) ?_
      refine m_run ?_
      have hcI := cellD (b := b) (c := c) (Γ := Γ) hsz (show a < n by omega)
      have hcK := cellD (b := b) (c := c) (Γ := Γ) hsz (show a + m < n by omega)
      refine TK.drawB mixed rfl 17 (DD b c n d :: Γ) (Γ) ?_
      refine m_bake (At.mk : At 0) ?_; refine m_bake (At.mk : At 1) ?_; refine m_bake (At.mk : At 2) ?_; refine m_bake (At.mk : At 3) ?_; refine m_bake (At.mk : At 4) ?_; refine m_bake (At.mk : At 5) ?_
      refine TB.know (t := 38) (v := .int .i64 ((a + m : Nat) : Int)) (congrArg (Value.int .i64) (by rw [i64_in (by omega) (by omega)]; omega)) ?_
      refine m_bake (At.mk : At 6) ?_; refine m_bake (At.mk : At 7) ?_; refine m_bake (At.mk : At 8) ?_; refine m_bake (At.mk : At 9) ?_
      refine TB.know (t := 42) (v := .int .i64 ((a + m : Nat) : Int)) (congrArg (Value.int .i64) (by rw [i64_in (by omega) (by omega)]; omega)) ?_
      refine m_bake (At.mk : At 10) ?_; refine m_bake (At.mk : At 11) ?_; refine m_bake (At.mk : At 12) ?_; refine m_bake (At.mk : At 13) ?_; refine m_bake (At.mk : At 14) ?_; refine m_bake (At.mk : At 15) ?_; refine m_bake (At.mk : At 16) ?_
      (apply TB.last; kernel_rfl; exact rfl)
      (apply TL.storeOwn 0 (a); exact rfl; exact rfl; exact rfl; exact rfl; exact tb rfl; exact rfl; exact (Nat.zero_add _).symm; exact (by omega))
      refine TL.back (by (focus ((repeat (first | assumption | exact Ent.refl _ | apply Ent.tail)); done))) ?_
      refine m_take (At.mk : At 18) ?_
      (apply TA.one 19; kernel_rfl; exact rfl)
      (apply TL.storeOwn 0 (a + m); exact rfl; exact rfl; exact rfl; exact rfl; exact tb rfl; exact rfl; exact (Nat.zero_add _).symm; exact (by omega))
      refine TL.back (by (focus ((repeat (first | assumption | exact Ent.refl _ | apply Ent.tail)); done))) ?_
      refine TA.done (by kernel_rfl) ?_
      refine TK.imp (Δ := DD b c n (swp d (a) (a + m)) :: Γ) (fun _ h => by show all (own _ _ _ _ (nums _ (swp d (a) (a + m)).toList) :: _) _; rw [← swpD]; exact h) ?_
      have hsz : (swp d (a) (a + m)).size = n := (size_swp _ _ _).trans hsz
      clear hcI hcK
      refine m_run ?_
      (apply TL.callV; exact rfl; exact callB_of (by kernel_rfl); exact rfl; exact fun _ h => h)
      exact sift_t b c n 0 m a _ Γ hsz (by omega) (by omega) hn
      rintro _ _ ⟨rfl, rfl⟩
      have hsz : (siftDown ltInt m a 0 (swp d a (a + m))).size = n := (sift_size _ _ _ _ (by omega)).trans hsz
      refine m_run ?_
      exact IH m _ _ (by omega) ⟨_, by omega, hsz, hX, rfl, rfl, rfl, congrArg (Value.int .i64) (by rw [i64_in (by omega) (by omega)]), rfl⟩
    | zero =>
      rw [Sort.heapPop] at hX
      rw [hX]
      refine TK.know (t := 10) (v := .int .i64 (-1)) (congrArg (Value.int .i64) (by omega)) ?_
      refine m_run ?_
      exact TK.over0 rfl rfl ⟨_, rfl, rfl, rfl⟩

set_option maxRecDepth 100000 in
set_option maxHeartbeats 4000000 in
theorem partEq_t (b c n a e p : Nat) (d0 : Array Int) (Γ : List HP) (hsz0 : d0.size = n) (hap : a ≤ p) (hpe : p < e) (he : e ≤ n) (hn : n ≤ 1000000000) :
    FnV Tryz.prog 143 [.slice (some ⟨b, 0, none⟩) n c, .int .i64 (a : Int), .int .i64 (e : Int), .int .i64 (p : Int)] (DD b c n d0 :: Γ) fun v Γ' => v = .int .i64 ((partitionEqual ltInt d0 a e p).1 : Int) ∧ Γ' = DD b c n (partitionEqual ltInt d0 a e p).2 :: Γ := by
  refine Fn.enter Tryz.func143 rfl rfl rfl fun E => ?_
  unfold partitionEqual
  generalize hX : partEqLoop ltInt a (a + 1) (e - 1) (swp d0 a p) = X
  have hsz := hsz0
  refine m_run ?_
  have hcI := cellD (b := b) (c := c) (Γ := Γ) hsz (show a < n by omega)
  have hcK := cellD (b := b) (c := c) (Γ := Γ) hsz (show p < n by omega)
  refine TK.drawB mixed rfl 13 (DD b c n d0 :: Γ) (Γ) ?_
  refine m_bake (At.mk : At 0) ?_; refine m_bake (At.mk : At 1) ?_; refine m_bake (At.mk : At 2) ?_; refine m_bake (At.mk : At 3) ?_; refine m_bake (At.mk : At 4) ?_; refine m_bake (At.mk : At 5) ?_; refine m_bake (At.mk : At 6) ?_; refine m_bake (At.mk : At 7) ?_; refine m_bake (At.mk : At 8) ?_; refine m_bake (At.mk : At 9) ?_; refine m_bake (At.mk : At 10) ?_; refine m_bake (At.mk : At 11) ?_; refine m_bake (At.mk : At 12) ?_
  (apply TB.last; kernel_rfl; exact rfl)
  (apply TL.storeOwn 0 (a); exact rfl; exact rfl; exact rfl; exact rfl; exact tb rfl; exact rfl; exact (Nat.zero_add _).symm; exact (by omega))
  refine TL.back (by (focus ((repeat (first | assumption | exact Ent.refl _ | apply Ent.tail)); done))) ?_
  refine m_take (At.mk : At 14) ?_
  (apply TA.one 15; kernel_rfl; exact rfl)
  (apply TL.storeOwn 0 (p); exact rfl; exact rfl; exact rfl; exact rfl; exact tb rfl; exact rfl; exact (Nat.zero_add _).symm; exact (by omega))
  refine TL.back (by (focus ((repeat (first | assumption | exact Ent.refl _ | apply Ent.tail)); done))) ?_
  refine TA.done (by kernel_rfl) ?_
  refine TK.imp (Δ := DD b c n (swp d0 (a) (p)) :: Γ) (fun _ h => by show all (own _ _ _ _ (nums _ (swp d0 (a) (p)).toList) :: _) _; rw [← swpD]; exact h) ?_
  have hsz : (swp d0 (a) (p)).size = n := (size_swp _ _ _).trans hsz
  clear hcI hcK
  refine m_run ?_
  apply TK.iter (fun m ρ' Γ' => ∃ (i j : Nat) (d : Array Int), j + 1 - i ≤ m ∧ a + 1 ≤ i ∧ i ≤ j + 1 ∧ j < n ∧ d.size = n ∧ partEqLoop ltInt a i j d = X ∧ lk ρ' 0 = .slice (some ⟨b, 0, none⟩) n c ∧ lk ρ' 1 = .int .i64 (a : Int) ∧ lk ρ' 9 = .int .i64 (i : Int) ∧ lk ρ' 10 = .int .i64 (j : Int) ∧ Γ' = DD b c n d :: Γ) n
  · exact ⟨a + 1, e - 1, _, by omega, by omega, by omega, by omega, hsz, hX, rfl, rfl, congrArg (Value.int .i64) (by rw [i64_in (by omega) (by omega)]; omega), congrArg (Value.int .i64) (by rw [i64_in (by omega) (by omega)]; omega), rfl⟩
  clear hX hsz
  rintro m IH ρ' _ ⟨i, j, d, hm, hi1, hij, hjn, hsz, hX, e0, e1, e9, e10, rfl⟩
  refine TK.know4 e0 e1 e9 e10 ?_
  rw [partEqLoop_eq] at hX
  (repeat (first | refine TK.seq ?_ | refine TK.skip ?_))
  refine TK.block ?_
  (repeat (first | refine TK.seq ?_ | refine TK.skip ?_))
  apply TK.cut (fun ρ' Γ' => lk ρ' 0 = .slice (some ⟨b, 0, none⟩) n c ∧ lk ρ' 1 = .int .i64 (a : Int) ∧ lk ρ' 9 = .int .i64 ((scanUp (fun x => !ltInt d[a]! x) d (j) (i) : Nat) : Int) ∧ lk ρ' 10 = .int .i64 (j : Int) ∧ Γ' = DD b c n d :: Γ)
  · intro k' hk'
    generalize hS : scanUp (fun x => !ltInt d[a]! x) d (j) (i) = I at hk'
    refine m_run ?_
    apply TK.iter (fun m ρ' Γ' => ∃ (x : Nat), (j) + 1 - x ≤ m ∧ (i) ≤ x ∧ x ≤ (j) + 1 ∧ scanUp (fun x => !ltInt d[a]! x) d (j) x = I ∧ lk ρ' 0 = .slice (some ⟨b, 0, none⟩) n c ∧ lk ρ' 1 = .int .i64 (a : Int) ∧ lk ρ' 9 = .int .i64 (x : Int) ∧ lk ρ' 10 = .int .i64 (j : Int) ∧ Γ' = DD b c n d :: Γ) ((j) + 1)
    · exact ⟨i, by omega, Nat.le_refl _, by omega, hS, rfl, rfl, rfl, rfl, rfl⟩
    clear hS
    rintro m IH ρ' _ ⟨x, hm, hx1, hx2, hS, e0, e1, ei, ej, rfl⟩
    refine TK.know4 e0 e1 ei ej ?_
    rw [Sort.scanUp] at hS
    by_cases hx : x ≤ j
    · have hc1 := cellD (b := b) (c := c) (Γ := Γ) hsz (show x < n by omega)
      have hc2 := cellD (b := b) (c := c) (Γ := Γ) hsz (show a < n by omega)
      refine m_run ?_
      refine TK.drawS mixed rfl ?_
      refine m_take (At.mk : At 0) ?_; refine m_take (At.mk : At 1) ?_; refine m_take (At.mk : At 2) ?_
      refine TA.isT 31 rfl (decide_eq_true (by omega)) ?_
      refine m_take (At.mk : At 3) ?_; refine m_take (At.mk : At 4) ?_; refine m_take (At.mk : At 5) ?_; refine m_take (At.mk : At 6) ?_; refine m_take (At.mk : At 7) ?_; refine m_take (At.mk : At 8) ?_; refine m_take (At.mk : At 9) ?_; refine m_take (At.mk : At 10) ?_; refine m_take (At.mk : At 11) ?_
      (apply TA.one 12; kernel_rfl; exact rfl)
      refine m_rrun ?_
      (apply TL.callV; exact rfl; exact callB_of (by kernel_rfl); exact rfl; exact fun _ h => h)
      exact less_t _ _ _
      rintro _ _ ⟨rfl, rfl⟩
      refine TL.back (by (focus ((repeat (first | assumption | exact Ent.refl _ | apply Ent.tail)); done))) ?_
      refine m_take (At.mk : At 13) ?_; refine m_take (At.mk : At 14) ?_
      by_cases h : d[a]! < d[x]!
      · rw [if_neg (by simp [ltInt, h])] at hS
        refine TA.isF 43 rfl (not_f (decide_eq_true h)) ?_
        refine TA.done (by kernel_rfl) ?_
        clear hc1 hc2
        refine m_run ?_
        exact hk' _ _ ⟨rfl, rfl, congrArg (fun z : Nat => Value.int .i64 (z : Int)) hS, rfl, rfl⟩
      · rw [if_pos (by simp [ltInt, h]; omega)] at hS
        refine TA.isT 43 rfl (not_t (decide_eq_false h)) ?_
        refine TA.done (by kernel_rfl) ?_
        clear hc1 hc2
        refine m_run ?_
        exact IH (m - 1) _ _ (by omega) ⟨x + 1, by omega, by omega, by omega, hS, rfl, rfl, congrArg (Value.int .i64) (i64_succ x (by omega)), rfl, rfl⟩
    · rw [if_neg (by simp; omega)] at hS
      refine m_run ?_
      refine TK.drawS mixed rfl ?_
      refine m_take (At.mk : At 0) ?_; refine m_take (At.mk : At 1) ?_; refine m_take (At.mk : At 2) ?_
      refine TA.isF 31 rfl (decide_eq_false (by omega)) ?_
      refine m_take (At.mk : At 3) ?_; refine m_take (At.mk : At 4) ?_; refine m_take (At.mk : At 5) ?_; refine m_take (At.mk : At 6) ?_; refine m_take (At.mk : At 7) ?_; refine m_take (At.mk : At 8) ?_; refine m_take (At.mk : At 9) ?_; refine m_take (At.mk : At 10) ?_; refine m_take (At.mk : At 11) ?_; refine m_take (At.mk : At 12) ?_; refine m_take (At.mk : At 13) ?_; refine m_take (At.mk : At 14) ?_
      refine TA.done (by kernel_rfl) ?_
      refine m_run ?_
      exact hk' _ _ ⟨rfl, rfl, congrArg (fun z : Nat => Value.int .i64 (z : Int)) hS, rfl, rfl⟩
  rintro ρ' _ ⟨e0, e1, ei, ej, rfl⟩
  refine TK.know4 e0 e1 ei ej ?_
  obtain ⟨hs1, hs2, _, hs4⟩ := scanUp_spec (fun x => !ltInt d[a]! x) d j _ i rfl
  have hs2 := hs2 hij
  generalize hI : scanUp (fun x => !ltInt d[a]! x) d j i = i2 at *
  (repeat (first | refine TK.seq ?_ | refine TK.skip ?_))
  apply TK.cut (fun ρ' Γ' => lk ρ' 0 = .slice (some ⟨b, 0, none⟩) n c ∧ lk ρ' 1 = .int .i64 (a : Int) ∧ lk ρ' 9 = .int .i64 (i2 : Int) ∧ lk ρ' 10 = .int .i64 ((scanDown (fun x => ltInt d[a]! x) d (i2) (j) : Nat) : Int) ∧ Γ' = DD b c n d :: Γ)
  · intro k' hk'
    generalize hS : scanDown (fun x => ltInt d[a]! x) d (i2) (j) = J at hk'
    refine m_run ?_
    apply TK.iter (fun m ρ' Γ' => m ≤ j ∧ (i2) ≤ m + 1 ∧ scanDown (fun x => ltInt d[a]! x) d (i2) m = J ∧ lk ρ' 0 = .slice (some ⟨b, 0, none⟩) n c ∧ lk ρ' 1 = .int .i64 (a : Int) ∧ lk ρ' 9 = .int .i64 (i2 : Int) ∧ lk ρ' 10 = .int .i64 (m : Int) ∧ Γ' = DD b c n d :: Γ) (j)
    · exact ⟨Nat.le_refl _, by omega, hS, rfl, rfl, rfl, rfl, rfl⟩
    clear hS
    rintro x IH ρ' _ ⟨hx1, hx2, hS, e0, e1, ei, ej, rfl⟩
    refine TK.know4 e0 e1 ei ej ?_
    by_cases hx : i2 ≤ x
    · obtain ⟨w, rfl⟩ : ∃ w, x = w + 1 := ⟨x - 1, by omega⟩
      rw [Sort.scanDown] at hS
      have hc1 := cellD (b := b) (c := c) (Γ := Γ) hsz (show w + 1 < n by omega)
      have hc2 := cellD (b := b) (c := c) (Γ := Γ) hsz (show a < n by omega)
      refine m_run ?_
      refine TK.drawS mixed rfl ?_
      refine m_take (At.mk : At 0) ?_; refine m_take (At.mk : At 1) ?_; refine m_take (At.mk : At 2) ?_
      refine TA.isT 48 rfl (decide_eq_true (by omega)) ?_
      refine m_take (At.mk : At 3) ?_; refine m_take (At.mk : At 4) ?_; refine m_take (At.mk : At 5) ?_; refine m_take (At.mk : At 6) ?_; refine m_take (At.mk : At 7) ?_; refine m_take (At.mk : At 8) ?_; refine m_take (At.mk : At 9) ?_; refine m_take (At.mk : At 10) ?_; refine m_take (At.mk : At 11) ?_
      (apply TA.one 12; kernel_rfl; exact rfl)
      refine m_rrun ?_
      (apply TL.callV; exact rfl; exact callB_of (by kernel_rfl); exact rfl; exact fun _ h => h)
      exact less_t _ _ _
      rintro _ _ ⟨rfl, rfl⟩
      refine TL.back (by (focus ((repeat (first | assumption | exact Ent.refl _ | apply Ent.tail)); done))) ?_
      refine m_take (At.mk : At 13) ?_
      by_cases h : d[a]! < d[w + 1]!
      · rw [if_pos (by simp [ltInt, h]; omega)] at hS
        refine TA.isT 59 rfl (decide_eq_true h) ?_
        refine TA.done (by kernel_rfl) ?_
        clear hc1 hc2
        refine m_run ?_
        exact IH w _ _ (by omega) ⟨by omega, by omega, hS, rfl, rfl, rfl, congrArg (Value.int .i64) (by rw [i64_in (by omega) (by omega)]; omega), rfl⟩
      · rw [if_neg (by simp [ltInt, h])] at hS
        refine TA.isF 59 rfl (decide_eq_false h) ?_
        refine TA.done (by kernel_rfl) ?_
        clear hc1 hc2
        refine m_run ?_
        exact hk' _ _ ⟨rfl, rfl, rfl, congrArg (fun z : Nat => Value.int .i64 (z : Int)) hS, rfl⟩
    · have hS : x = J := by
        rw [← hS]
        cases x with
        | zero => rw [Sort.scanDown]
        | succ w => rw [Sort.scanDown, if_neg (by simp; omega)]
      refine m_run ?_
      refine TK.drawS mixed rfl ?_
      refine m_take (At.mk : At 0) ?_; refine m_take (At.mk : At 1) ?_; refine m_take (At.mk : At 2) ?_
      refine TA.isF 48 rfl (decide_eq_false (by omega)) ?_
      refine m_take (At.mk : At 3) ?_; refine m_take (At.mk : At 4) ?_; refine m_take (At.mk : At 5) ?_; refine m_take (At.mk : At 6) ?_; refine m_take (At.mk : At 7) ?_; refine m_take (At.mk : At 8) ?_; refine m_take (At.mk : At 9) ?_; refine m_take (At.mk : At 10) ?_; refine m_take (At.mk : At 11) ?_; refine m_take (At.mk : At 12) ?_; refine m_take (At.mk : At 13) ?_
      refine TA.done (by kernel_rfl) ?_
      refine m_run ?_
      exact hk' _ _ ⟨rfl, rfl, rfl, congrArg (fun z : Nat => Value.int .i64 (z : Int)) hS, rfl⟩
  rintro ρ' _ ⟨e0, e1, ei, ej, rfl⟩
  refine TK.know4 e0 e1 ei ej ?_
  obtain ⟨ht1, ht2, _, ht4⟩ := scanDown_spec (fun x => ltInt d[a]! x) d i2 j
  have ht2 := ht2 hs2
  generalize hJ : scanDown (fun x => ltInt d[a]! x) d i2 j = j2 at *
  by_cases hgt : i2 > j2
  · rw [if_pos hgt] at hX
    rw [← hX]
    refine m_run ?_
    (apply TK.ret1; exact rfl; exact rfl; (exact m_val))
    exact ⟨_, rfl, rfl, rfl⟩
  · rw [if_neg hgt] at hX
    have hne : i2 ≠ j2 := fun e => by
      have h1 := hs4 (by omega)
      have h2 := ht4 (by omega) (by omega)
      rw [← e] at h2
      simp only [h2] at h1
      cases h1
    refine m_run ?_
    have hcI := cellD (b := b) (c := c) (Γ := Γ) hsz (show i2 < n by omega)
    have hcK := cellD (b := b) (c := c) (Γ := Γ) hsz (show j2 < n by omega)
    refine TK.drawB mixed rfl 13 (DD b c n d :: Γ) (Γ) ?_
    refine m_bake (At.mk : At 0) ?_; refine m_bake (At.mk : At 1) ?_; refine m_bake (At.mk : At 2) ?_; refine m_bake (At.mk : At 3) ?_; refine m_bake (At.mk : At 4) ?_; refine m_bake (At.mk : At 5) ?_; refine m_bake (At.mk : At 6) ?_; refine m_bake (At.mk : At 7) ?_; refine m_bake (At.mk : At 8) ?_; refine m_bake (At.mk : At 9) ?_; refine m_bake (At.mk : At 10) ?_; refine m_bake (At.mk : At 11) ?_; refine m_bake (At.mk : At 12) ?_
    (apply TB.last; kernel_rfl; exact rfl)
    (apply TL.storeOwn 0 (i2); exact rfl; exact rfl; exact rfl; exact rfl; exact tb rfl; exact rfl; exact (Nat.zero_add _).symm; exact (by omega))
    refine TL.back (by (focus ((repeat (first | assumption | exact Ent.refl _ | apply Ent.tail)); done))) ?_
    refine m_take (At.mk : At 14) ?_
    (apply TA.one 15; kernel_rfl; exact rfl)
    (apply TL.storeOwn 0 (j2); exact rfl; exact rfl; exact rfl; exact rfl; exact tb rfl; exact rfl; exact (Nat.zero_add _).symm; exact (by omega))
    refine TL.back (by (focus ((repeat (first | assumption | exact Ent.refl _ | apply Ent.tail)); done))) ?_
    refine TA.done (by kernel_rfl) ?_
    refine TK.imp (Δ := DD b c n (swp d (i2) (j2)) :: Γ) (fun _ h => by show all (own _ _ _ _ (nums _ (swp d (i2) (j2)).toList) :: _) _; rw [← swpD]; exact h) ?_
    have hsz : (swp d (i2) (j2)).size = n := (size_swp _ _ _).trans hsz
    clear hcI hcK
    refine m_run ?_
    exact IH (m - 1) _ _ (by omega) ⟨i2 + 1, j2 - 1, _, by omega, by omega, by omega, by omega, hsz, hX, rfl, rfl, congrArg (Value.int .i64) (by rw [i64_in (by omega) (by omega)]; omega), congrArg (Value.int .i64) (by rw [i64_in (by omega) (by omega)]; omega), rfl⟩
end Go.Proofs.YthbcfamfaicneaaGreat.E.SU
