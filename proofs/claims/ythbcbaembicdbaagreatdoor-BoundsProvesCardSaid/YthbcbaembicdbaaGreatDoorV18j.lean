import Derived.Test.YthbcbaembicdbaaGreatDoorV18h
namespace Go.Proofs.YthbcbaembicdbaaGreatDoor
open Go.Abs Go.RowKit
theorem aas:ac Tryz.prog 11 [bT NW,jM gl2,I 1048576] (ZD [0,0,1,1] true):=AL (by decide+kernel)
