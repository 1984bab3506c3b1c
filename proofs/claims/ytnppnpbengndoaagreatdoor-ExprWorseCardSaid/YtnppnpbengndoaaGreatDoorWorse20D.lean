/- The cases of talus/taluslaw20.ExprWorse: what is known of the unknown values in each. Written by a program of our own. -/
import Derived.Test.YtnppnpbengndoaaGreatDoorLive20
set_option linter.unusedVariables false
set_option maxRecDepth 100000
namespace Go.Proofs.YtnppnpbengndoaaGreatDoor.worse20
open Go Go.RowKit Go.Proofs.YtnppnpbengndoaaGreatDoor.Simx
noncomputable def lawSm : CallF := orSm (pureSm (pureFind [⟨16, [], .bool true⟩])) libSm
theorem law_ok (m : Int) (η : Nat → Value) : CallOk η Tryz.prog (gl m) lawSm := orSm_ok (pureFind_ok (all_cons (live20.known m) all_nil)) (lib_ok m η)
def f0 : List Fact := [⟨.eql, .complex .f32 0 0, .int .i64 (.ofNat 15), .bool true⟩]
def c0 : List Cnv := []
def f1 : List Fact := [⟨.eql, .complex .f32 1 0, .int .i64 (.ofNat 15), .bool true⟩, ⟨.eql, .complex .f32 0 0, .int .i64 (.ofNat 15), .bool false⟩]
def c1 : List Cnv := []
def f2 : List Fact := [⟨.eql, .complex .f32 0 0, .int .i64 (.ofNat 16), .bool true⟩, ⟨.eql, .complex .f32 1 0, .int .i64 (.ofNat 15), .bool false⟩, ⟨.eql, .complex .f32 0 0, .int .i64 (.ofNat 15), .bool false⟩]
def c2 : List Cnv := []
def f3 : List Fact := [⟨.eql, .complex .f32 1 0, .int .i64 (.ofNat 16), .bool true⟩, ⟨.eql, .complex .f32 0 0, .int .i64 (.ofNat 16), .bool false⟩, ⟨.eql, .complex .f32 1 0, .int .i64 (.ofNat 15), .bool false⟩, ⟨.eql, .complex .f32 0 0, .int .i64 (.ofNat 15), .bool false⟩]
def c3 : List Cnv := []
def f4 : List Fact := [⟨.neq, .complex .f32 0 0, .complex .f32 0 0, .bool false⟩, ⟨.neq, .complex .f32 0 0, .int .i64 (.ofNat 0), .bool true⟩, ⟨.eql, .complex .f32 1 0, .int .i64 (.ofNat 16), .bool false⟩, ⟨.eql, .complex .f32 0 0, .int .i64 (.ofNat 16), .bool false⟩, ⟨.eql, .complex .f32 1 0, .int .i64 (.ofNat 15), .bool false⟩, ⟨.eql, .complex .f32 0 0, .int .i64 (.ofNat 15), .bool false⟩]
def c4 : List Cnv := []
def f5 : List Fact := [⟨.neq, .complex .f32 1 0, .complex .f32 1 0, .bool false⟩, ⟨.neq, .complex .f32 0 0, .int .i64 (.ofNat 0), .bool false⟩, ⟨.eql, .complex .f32 1 0, .int .i64 (.ofNat 16), .bool false⟩, ⟨.eql, .complex .f32 0 0, .int .i64 (.ofNat 16), .bool false⟩, ⟨.eql, .complex .f32 1 0, .int .i64 (.ofNat 15), .bool false⟩, ⟨.eql, .complex .f32 0 0, .int .i64 (.ofNat 15), .bool false⟩]
def c5 : List Cnv := []
end Go.Proofs.YtnppnpbengndoaaGreatDoor.worse20
